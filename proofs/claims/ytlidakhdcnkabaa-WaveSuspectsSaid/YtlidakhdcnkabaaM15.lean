/- Verify. Clash. Waves. Suspects. No condition. -/
import Derived.Test.YtlidakhdcnkabaaM14
namespace Go.Proofs.Ytlidakhdcnkabaa
open Go.AI
set_option linter.unusedSimpArgs false

/-- Along a ring: is it the first element; the first node, the node that is asked for, the sum, the sign. -/
def verL (t : Tide) : Bool → Node → Node → Int → Int → List Int → Int
  | _, first, next, sum, _, [] => if sameN next first = false then 5 else if sum = 0 then 12 else 0
  | b, first, next, sum, sign, i :: l =>
    if 0 ≤ i ∧ i ≤ (t.rs.length : Int) - 1 then
      if b = false ∧ sameN next (0, (t.rs.getD i.toNat (0, 0)).1.tmod t.sun) = false ∧ sameN next (1, (t.rs.getD i.toNat (0, 0)).1.tmod t.moon) = false then 5
      else verL t false (if b = true then (1, (t.rs.getD i.toNat (0, 0)).1.tmod t.moon) else first) (if sign < 0 then (1, (t.rs.getD i.toNat (0, 0)).1.tmod t.moon) else (0, (t.rs.getD i.toNat (0, 0)).1.tmod t.sun))
        (IntKind.i64.wrap (sum + IntKind.i64.wrap (sign * (t.rs.getD i.toNat (0, 0)).2))) (-sign) l
    else 6

def verifyT (t : Tide) (ring : List Int) : Int :=
  if checkT t ≠ 0 then checkT t else if (2 ≤ ring.length ∧ ring.length ≤ 60) ∧ ring.length % 2 = 0 then verL t true (0, 0) (0, 0) 0 1 ring else 4

def VerifyS : FSpec := fun xs nx G => match xs with
  | [r, .il es _] => ofOpt (asTide r) fun t => ofOpt (asInts es) fun l => valR nx G (.int .i64 (verifyT t l))
  | _ => .fail

def X11 : Ext := .of [(21, checkS), (48, betweenS), (52, endsS)] []
theorem X11.sound : X11.Sound Try.prog := Ext.of_sound ⟨check_sound, between_sound, ends_sound, trivial⟩
@[simp] theorem X11.raw_ (f : FuncId) : X11.raw f = false := rfl
@[simp] theorem X11.s21 : X11.spec 21 = checkS := rfl
@[simp] theorem X11.s48 : X11.spec 48 = betweenS := rfl
@[simp] theorem X11.s52 : X11.spec 52 = endsS := rfl

theorem Verify_sound : FSound Try.prog 25 VerifyS := by
  refine fsound_pure Try.func25 (by kernel_rfl) rfl _ fun xs nx G d hp h => ?_
  unfold VerifyS at h
  split at h
  · rename_i r es ex1
    replace h := rd_opt h; obtain ⟨t, ht, h⟩ := h
    replace h := rd_opt h; obtain ⟨ring, hl, h⟩ := h
    obtain ⟨ex, rfl⟩ := asTide_some ht
    have := asInts_some hl; subst this
    have hd := rd_val h
    subst hd
    refine ⟨by simp [Try.f25], all2 (free_tide t ex) (free_ints _ _), ?_⟩
    have one : ∀ {s : St} {v : Int}, tget s.tmps 4 = .int .i64 v → Ends0 Try.prog Try.f25 s nx G ⟨.int .i64 v, [], nx, G⟩ := fun {s v} hv => ends_free (l := [.tmp 4]) rfl (rs := [.int .i64 v]) (by simp [hv]) (fun k => by simp) (by simp)
    refine .step X11.sound (by kernel_rfl) (by simp; exact rfl) ?_ -- region 0
    refine .seq (.step X11.sound (by kernel_rfl) (by simp; exact rfl) ?_) -- region 1
    refine .step X11.sound (by kernel_rfl) (by simp; exact rfl) ?_ -- region 2
    refine .cond_split (by simp; exact rfl) (fun hc => ?_) (fun hc => ?_) -- t18
    · have hc' : checkT t ≠ 0 := by simpa using hc
      have : verifyT t ring = checkT t := by simp [verifyT, hc']
      rw [this]
      exact .step X11.sound (by kernel_rfl) (by simp; exact rfl) (.ret ⟨.inr rfl, one (by simp)⟩) -- region 3
    · have hc' : checkT t = 0 := by simpa using hc
      obtain ⟨k1, k2, _⟩ := checkT_zero hc'
      have h1 : t.sun ≠ 0 := by omega
      have h2 : t.moon ≠ 0 := by omega
      refine .skip (.seq ?_)
      by_cases r1 : 2 ≤ (ring.length : Int) ∧ (ring.length : Int) ≤ 60
      · have ht2 : ((ring.length : Int).tmod 2) = ((ring.length % 2 : Nat) : Int) := by rw [Int.tmod_eq_emod_of_nonneg (by omega)]; omega
        by_cases r2 : ring.length % 2 = 0
        · have hv : verifyT t ring = verL t true (0, 0) (0, 0) 0 1 ring := by
            simp only [verifyT, hc', ne_eq, not_true, if_false]
            rw [if_pos ⟨by omega, r2⟩]
          rw [hv]
          have r2' : ((ring.length : Int).tmod 2) = 0 := by rw [ht2, r2]; rfl
          refine .step X11.sound (by kernel_rfl) (by simp [r1.1, r1.2, r2']; exact rfl) ?_ -- region 4
          refine .cond (t := false) (by simp) (.skip ?_)
          refine .step X11.sound (by kernel_rfl) (by simp; exact rfl) ?_ -- region 6
          refine .step X11.sound (by kernel_rfl) (by simp; exact rfl) ?_ -- region 7
          refine .seq (.step X11.sound (by kernel_rfl) (by simp; exact rfl) (.block ?_)) -- region 8
          have hn1 : IntKind.i64.wrap (-1) = -1 := wrap64 (by omega) (by omega)
          have hn2 : IntKind.i64.wrap 1 = 1 := wrap64 (by omega) (by omega)
          refine .loopV (fun k st => ∃ (j : Nat) (first next : Node) (sum sign : Int) (G : Nat), j ≤ ring.length ∧ k = ring.length - j ∧ (sign = 1 ∨ sign = -1) ∧ verL t (decide (j = 0)) first next sum sign (ring.drop j) = verL t true (0, 0) (0, 0) 0 1 ring ∧
            st = ⟨[(2, .ptr 0 0 0 0), (6, .ptr 1 1 0 0), (7, .ptr 2 2 0 0), (8, .int .i64 sum), (9, .int .i64 sign), (30, .il (ints ring) ex1), (31, .int .i64 ring.length), (32, .int .i64 j)],
              [(0, some (.row 3 [tideC t ex] 0 true)), (1, some (.row 2 [[.int .i64 first.1, .int .i64 first.2]] 1 true)), (2, some (.row 2 [[.int .i64 next.1, .int .i64 next.2]] 2 true))], 3, G⟩) ?_ (View.norm _ [2, 6, 7, 8, 9, 30, 31, 32] [0, 1, 2] 3 3 (by simp)) ⟨0, (0, 0), (0, 0), 0, 1, 3, by omega, rfl, .inl rfl, rfl, by simp⟩
          rintro k st ⟨j, first, next, sum, sign, G1, hj, rfl, hsg, hver, rfl⟩
          refine .len 30 (es := ints ring) (ex := ex1) (by simp) fun hlr => ?_
          refine .step X11.sound (by kernel_rfl) (by simp; exact rfl) ?_ -- region 9
          refine .seq (.cond_split (by simp; exact rfl) (fun hc => ?_) (fun hc => ?_)) -- t33
          · have hj' : j < ring.length := by simpa using hc
            have hdrop : ring.drop j = ring[j] :: ring.drop (j + 1) := List.drop_eq_getElem_cons hj'
            obtain ⟨x, hx⟩ : ∃ x, x = ring[j] := ⟨_, rfl⟩
            rw [hdrop, verL, ← hx] at hver
            have hw1 : IntKind.i64.wrap ((j : Int) + 1) = (j : Int) + 1 := wrap64 (by omega) (by omega)
            have hlen60 := (checkT_zero hc').2.2.1
            have hwl : IntKind.i64.wrap ((t.rs.length : Int) - 1) = (t.rs.length : Int) - 1 := wrap64 (by omega) (by omega)
            refine .skip (.seq (.block ?_))
            refine .step X11.sound (by kernel_rfl) (by simp [hj', ← hx]; exact rfl) ?_ -- region 10
            by_cases hr : 0 ≤ x ∧ x ≤ (t.rs.length : Int) - 1
            · rw [if_pos hr] at hver
              obtain ⟨i, hi⟩ : ∃ i : Nat, x = i := ⟨x.toNat, by omega⟩
              rw [hi] at hver hr ⊢
              have hil : i < t.rs.length := by omega
              have hgd : t.rs.getD (i : Int).toNat (0, 0) = t.rs[i] := by simp [hil]
              rw [hgd] at hver
              have hil2 : (i : Int) ≤ (t.rs.length : Int) - 1 := hr.2
              refine .seq (.step X11.sound (by kernel_rfl) (by simp [hwl, hil2]; exact rfl) ?_) -- region 11
              refine .cond (t := false) (by simp) (.skip ?_)
              refine .step X11.sound (by kernel_rfl) (by simp [hil]; exact rfl) ?_ -- region 13
              refine .step X11.sound (by kernel_rfl) (by simp [ends_at, h1, h2]; exact rfl) ?_ -- region 14
              refine .seq (.block ?_)
              rcases hsg with rfl | rfl
              · rw [if_neg (by decide : ¬ (1 : Int) < 0)] at hver
                by_cases hj0 : j = 0
                · subst hj0
                  rw [if_neg (by simp)] at hver
                  simp only [decide_true, if_true, Nat.zero_add] at hver
                  refine .step X11.sound (by kernel_rfl) (by simp; exact rfl) ?_ -- region 15
                  refine .cond (t := true) (by simp) ?_
                  refine .region X11.sound (by kernel_rfl) (by simp; exact rfl) ?_ -- region 16
                  refine .step X11.sound (by kernel_rfl) (by simp; exact rfl) ?_ -- region 19
                  refine .seq (.step X11.sound (by kernel_rfl) (by simp; exact rfl) ?_) -- region 20
                  refine .cond (t := false) (by simp) (.skip ?_)
                  refine .step X11.sound (by kernel_rfl) (by simp; exact rfl) ?_ -- region 22
                  refine .region X11.sound (by kernel_rfl) (by simp [hn1, hn2]; exact rfl) ?_ -- region 23
                  refine .region X11.sound (by kernel_rfl) (by simp; exact rfl) ?_ -- region 24
                  refine ⟨_, _, View.norm _ [2, 6, 7, 8, 9, 30, 31, 32] [0, 1, 2] 3 (G1 + 3) (by simp), ?_, 0 + 1, (1, t.rs[i].1.tmod t.moon), (0, t.rs[i].1.tmod t.sun), IntKind.i64.wrap (sum + IntKind.i64.wrap ((1) * t.rs[i].2)), -(1), G1 + 3, by omega, rfl, by simp, hver, ?_⟩
                  · omega
                  · simp [hw1, hn1, hn2]
                · have hj1 : ¬ (j : Int) = 0 := by omega
                  have hd0 : decide (j = 0) = false := by simp [hj0]
                  refine .step X11.sound (by kernel_rfl) (by simp [hj1]; exact rfl) ?_ -- region 15
                  refine .cond (t := false) (by simp [hj0]) ?_
                  cases q1 : sameN next (0, t.rs[i].1.tmod t.sun)
                  · cases q2 : sameN next (1, t.rs[i].1.tmod t.moon)
                    · rw [if_pos ⟨hd0, q1, q2⟩] at hver
                      rw [← hver]
                      refine .step X11.sound (by kernel_rfl) (by simp [eq_nn, q1, q2]; exact rfl) ?_ -- region 17
                      refine .cond (t := true) (by simp) ?_
                      exact .step X11.sound (by kernel_rfl) (by simp; exact rfl) (.ret ⟨.inr rfl, one (by simp)⟩) -- region 18
                    · rw [if_neg (by simp [q2])] at hver
                      have hd1 : decide (j + 1 = 0) = false := by simp
                      simp only [hd0, Bool.false_eq_true, if_false] at hver
                      refine .step X11.sound (by kernel_rfl) (by simp [eq_nn, q1, q2]; exact rfl) ?_ -- region 17
                      refine .cond (t := false) (by simp) (.skip ?_)
                      refine .step X11.sound (by kernel_rfl) (by simp; exact rfl) ?_ -- region 19
                      refine .seq (.step X11.sound (by kernel_rfl) (by simp; exact rfl) ?_) -- region 20
                      refine .cond (t := false) (by simp) (.skip ?_)
                      refine .step X11.sound (by kernel_rfl) (by simp; exact rfl) ?_ -- region 22
                      refine .region X11.sound (by kernel_rfl) (by simp [hn1, hn2]; exact rfl) ?_ -- region 23
                      refine .region X11.sound (by kernel_rfl) (by simp; exact rfl) ?_ -- region 24
                      refine ⟨_, _, View.norm _ [2, 6, 7, 8, 9, 30, 31, 32] [0, 1, 2] 3 (G1 + 3) (by simp), ?_, j + 1, first, (0, t.rs[i].1.tmod t.sun), IntKind.i64.wrap (sum + IntKind.i64.wrap ((1) * t.rs[i].2)), -(1), G1 + 3, by omega, rfl, by simp, hver, ?_⟩
                      · omega
                      · simp [hw1, hn1, hn2]
                  · rw [if_neg (by simp [q1])] at hver
                    simp only [hd0, Bool.false_eq_true, if_false] at hver
                    refine .step X11.sound (by kernel_rfl) (by simp [eq_nn, q1]; exact rfl) ?_ -- region 17
                    refine .cond (t := false) (by simp) (.skip ?_)
                    refine .step X11.sound (by kernel_rfl) (by simp; exact rfl) ?_ -- region 19
                    refine .seq (.step X11.sound (by kernel_rfl) (by simp; exact rfl) ?_) -- region 20
                    refine .cond (t := false) (by simp) (.skip ?_)
                    refine .step X11.sound (by kernel_rfl) (by simp; exact rfl) ?_ -- region 22
                    refine .region X11.sound (by kernel_rfl) (by simp [hn1, hn2]; exact rfl) ?_ -- region 23
                    refine .region X11.sound (by kernel_rfl) (by simp; exact rfl) ?_ -- region 24
                    refine ⟨_, _, View.norm _ [2, 6, 7, 8, 9, 30, 31, 32] [0, 1, 2] 3 (G1 + 3) (by simp), ?_, j + 1, first, (0, t.rs[i].1.tmod t.sun), IntKind.i64.wrap (sum + IntKind.i64.wrap ((1) * t.rs[i].2)), -(1), G1 + 3, by omega, rfl, by simp, hver, ?_⟩
                    · omega
                    · simp [hw1, hn1, hn2]
              · rw [if_pos (by decide : (-1 : Int) < 0)] at hver
                by_cases hj0 : j = 0
                · subst hj0
                  rw [if_neg (by simp)] at hver
                  simp only [decide_true, if_true, Nat.zero_add] at hver
                  refine .step X11.sound (by kernel_rfl) (by simp; exact rfl) ?_ -- region 15
                  refine .cond (t := true) (by simp) ?_
                  refine .region X11.sound (by kernel_rfl) (by simp; exact rfl) ?_ -- region 16
                  refine .step X11.sound (by kernel_rfl) (by simp; exact rfl) ?_ -- region 19
                  refine .seq (.step X11.sound (by kernel_rfl) (by simp; exact rfl) ?_) -- region 20
                  refine .cond (t := true) (by simp) ?_
                  refine .region X11.sound (by kernel_rfl) (by simp; exact rfl) ?_ -- region 21
                  refine .step X11.sound (by kernel_rfl) (by simp; exact rfl) ?_ -- region 22
                  refine .region X11.sound (by kernel_rfl) (by simp [hn1, hn2]; exact rfl) ?_ -- region 23
                  refine .region X11.sound (by kernel_rfl) (by simp; exact rfl) ?_ -- region 24
                  refine ⟨_, _, View.norm _ [2, 6, 7, 8, 9, 30, 31, 32] [0, 1, 2] 3 (G1 + 3) (by simp), ?_, 0 + 1, (1, t.rs[i].1.tmod t.moon), (1, t.rs[i].1.tmod t.moon), IntKind.i64.wrap (sum + IntKind.i64.wrap ((-1) * t.rs[i].2)), -(-1), G1 + 3, by omega, rfl, by simp, hver, ?_⟩
                  · omega
                  · simp [hw1, hn1, hn2]
                · have hj1 : ¬ (j : Int) = 0 := by omega
                  have hd0 : decide (j = 0) = false := by simp [hj0]
                  refine .step X11.sound (by kernel_rfl) (by simp [hj1]; exact rfl) ?_ -- region 15
                  refine .cond (t := false) (by simp [hj0]) ?_
                  cases q1 : sameN next (0, t.rs[i].1.tmod t.sun)
                  · cases q2 : sameN next (1, t.rs[i].1.tmod t.moon)
                    · rw [if_pos ⟨hd0, q1, q2⟩] at hver
                      rw [← hver]
                      refine .step X11.sound (by kernel_rfl) (by simp [eq_nn, q1, q2]; exact rfl) ?_ -- region 17
                      refine .cond (t := true) (by simp) ?_
                      exact .step X11.sound (by kernel_rfl) (by simp; exact rfl) (.ret ⟨.inr rfl, one (by simp)⟩) -- region 18
                    · rw [if_neg (by simp [q2])] at hver
                      have hd1 : decide (j + 1 = 0) = false := by simp
                      simp only [hd0, Bool.false_eq_true, if_false] at hver
                      refine .step X11.sound (by kernel_rfl) (by simp [eq_nn, q1, q2]; exact rfl) ?_ -- region 17
                      refine .cond (t := false) (by simp) (.skip ?_)
                      refine .step X11.sound (by kernel_rfl) (by simp; exact rfl) ?_ -- region 19
                      refine .seq (.step X11.sound (by kernel_rfl) (by simp; exact rfl) ?_) -- region 20
                      refine .cond (t := true) (by simp) ?_
                      refine .region X11.sound (by kernel_rfl) (by simp; exact rfl) ?_ -- region 21
                      refine .step X11.sound (by kernel_rfl) (by simp; exact rfl) ?_ -- region 22
                      refine .region X11.sound (by kernel_rfl) (by simp [hn1, hn2]; exact rfl) ?_ -- region 23
                      refine .region X11.sound (by kernel_rfl) (by simp; exact rfl) ?_ -- region 24
                      refine ⟨_, _, View.norm _ [2, 6, 7, 8, 9, 30, 31, 32] [0, 1, 2] 3 (G1 + 3) (by simp), ?_, j + 1, first, (1, t.rs[i].1.tmod t.moon), IntKind.i64.wrap (sum + IntKind.i64.wrap ((-1) * t.rs[i].2)), -(-1), G1 + 3, by omega, rfl, by simp, hver, ?_⟩
                      · omega
                      · simp [hw1, hn1, hn2]
                  · rw [if_neg (by simp [q1])] at hver
                    simp only [hd0, Bool.false_eq_true, if_false] at hver
                    refine .step X11.sound (by kernel_rfl) (by simp [eq_nn, q1]; exact rfl) ?_ -- region 17
                    refine .cond (t := false) (by simp) (.skip ?_)
                    refine .step X11.sound (by kernel_rfl) (by simp; exact rfl) ?_ -- region 19
                    refine .seq (.step X11.sound (by kernel_rfl) (by simp; exact rfl) ?_) -- region 20
                    refine .cond (t := true) (by simp) ?_
                    refine .region X11.sound (by kernel_rfl) (by simp; exact rfl) ?_ -- region 21
                    refine .step X11.sound (by kernel_rfl) (by simp; exact rfl) ?_ -- region 22
                    refine .region X11.sound (by kernel_rfl) (by simp [hn1, hn2]; exact rfl) ?_ -- region 23
                    refine .region X11.sound (by kernel_rfl) (by simp; exact rfl) ?_ -- region 24
                    refine ⟨_, _, View.norm _ [2, 6, 7, 8, 9, 30, 31, 32] [0, 1, 2] 3 (G1 + 3) (by simp), ?_, j + 1, first, (1, t.rs[i].1.tmod t.moon), IntKind.i64.wrap (sum + IntKind.i64.wrap ((-1) * t.rs[i].2)), -(-1), G1 + 3, by omega, rfl, by simp, hver, ?_⟩
                    · omega
                    · simp [hw1, hn1, hn2]
            · rw [if_neg hr] at hver
              rw [← hver]
              refine .seq (.step X11.sound (by kernel_rfl) (by simp [hwl, neg_and hr]; exact rfl) ?_) -- region 11
              refine .cond (t := true) (by simp) ?_
              exact .step X11.sound (by kernel_rfl) (by simp; exact rfl) (.ret ⟨.inr rfl, one (by simp)⟩) -- region 12
          · have : j = ring.length := by simp at hc; omega
            subst this
            rw [List.drop_length, verL] at hver
            rw [← hver]
            refine .exit (.seq (.block ?_))
            cases q : sameN next first
            · refine .step X11.sound (by kernel_rfl) (by simp [eq_nn, q]; exact rfl) ?_ -- region 25
              refine .cond (t := true) (by simp) ?_
              rw [if_pos rfl]
              exact .step X11.sound (by kernel_rfl) (by simp; exact rfl) (.ret ⟨.inr rfl, one (by simp)⟩) -- region 26
            · rw [if_neg (by simp)]
              refine .step X11.sound (by kernel_rfl) (by simp [eq_nn, q]; exact rfl) ?_ -- region 25
              refine .cond (t := false) (by simp) ?_
              refine .step X11.sound (by kernel_rfl) (by simp; exact rfl) ?_ -- region 27
              refine .cond_split (by simp; exact rfl) (fun hc => ?_) (fun hc => ?_) -- t86
              · rw [if_pos (by simpa using hc)]
                exact .step X11.sound (by kernel_rfl) (by simp; exact rfl) (.ret ⟨.inr rfl, one (by simp)⟩) -- region 28
              · rw [if_neg (by simpa using hc)]
                refine .skip ?_
                exact .step X11.sound (by kernel_rfl) (by simp; exact rfl) (.ret ⟨.inr rfl, one (by simp)⟩) -- region 29
        · have hv : verifyT t ring = 4 := by
            simp only [verifyT, hc', ne_eq, not_true, if_false]
            rw [if_neg (fun h => r2 h.2)]
          rw [hv]
          have r2' : ((ring.length : Int).tmod 2) = 1 := by rw [ht2]; omega
          refine .step X11.sound (by kernel_rfl) (by simp [r1.1, r1.2, r2']; exact rfl) ?_ -- region 4
          refine .cond (t := true) (by simp) ?_
          exact .step X11.sound (by kernel_rfl) (by simp; exact rfl) (.ret ⟨.inr rfl, one (by simp)⟩) -- region 5
      · have hv : verifyT t ring = 4 := by
          simp only [verifyT, hc', ne_eq, not_true, if_false]
          rw [if_neg (fun h => r1 (by omega))]
        rw [hv]
        refine .step X11.sound (by kernel_rfl) (by simp [neg_and r1]; exact rfl) ?_ -- region 4
        refine .cond (t := true) (by simp) ?_
        exact .step X11.sound (by kernel_rfl) (by simp; exact rfl) (.ret ⟨.inr rfl, one (by simp)⟩) -- region 5
  · exact (rd_fail h).elim

end Go.Proofs.Ytlidakhdcnkabaa

namespace Go.Proofs.Ytlidakhdcnkabaa
open Go.AI
set_option linter.unusedSimpArgs false

theorem wayL_len (s : List (Node × Edge)) : ∀ (f : Nat) (n : Node) (l : List Int), wayL s f n = some l → l.length < f
  | 0, _, _, h => by simp [wayL] at h
  | f + 1, n, l, h => by
    unfold wayL at h
    split at h
    · rw [Option.map_eq_some_iff] at h
      obtain ⟨l', h', rfl⟩ := h
      have := wayL_len s f _ l' h'
      simp; omega
    · simp only [Option.some.injEq] at h
      subst h
      simp

/-- Two ways without what their ends have in common. -/
def strip : Nat → List Int → List Int → List Int × List Int
  | 0, a, b => (a, b)
  | f + 1, a, b => if 0 < a.length ∧ 0 < b.length ∧ a.getD (a.length - 1) 0 = b.getD (b.length - 1) 0 then strip f a.dropLast b.dropLast else (a, b)

theorem strip_stop (f : Nat) (a b : List Int) (h : ¬ (0 < a.length ∧ 0 < b.length ∧ a.getD (a.length - 1) 0 = b.getD (b.length - 1) 0)) : strip f a b = (a, b) := by
  cases f with
  | zero => rfl
  | succ f => unfold strip; rw [if_neg h]

theorem strip_step (a b : List Int) (p q : Nat) (hp : p < a.length) (hq : q < b.length) (h : a[p]? = b[q]?) : strip (p + 1) (a.take (p + 1)) (b.take (q + 1)) = strip p (a.take p) (b.take q) := by
  have h1 : (a.take (p + 1)).length = p + 1 := by simp; omega
  have h2 : (b.take (q + 1)).length = q + 1 := by simp; omega
  have h3 : (a.take (p + 1)).dropLast = a.take p := by rw [List.dropLast_eq_take, List.take_take, h1]; congr 1; omega
  have h4 : (b.take (q + 1)).dropLast = b.take q := by rw [List.dropLast_eq_take, List.take_take, h2]; congr 1; omega
  have h5 : (a.take (p + 1)).getD ((a.take (p + 1)).length - 1) 0 = (b.take (q + 1)).getD ((b.take (q + 1)).length - 1) 0 := by
    rw [h1, h2, List.getD_eq_getElem?_getD, List.getD_eq_getElem?_getD, List.getElem?_take, List.getElem?_take]
    simp [h]
  rw [strip, if_pos ⟨by omega, by omega, h5⟩, h3, h4]

def clashT (t : Tide) : Option (List Int × Int) :=
  if checkT t ≠ 0 then some ([], checkT t) else
  let i := badIx (solve t) t 0 t.rs
  if i < 0 then some ([], 6) else
  match wayL (solve t) 200 (0, (t.rs.getD i.toNat (0, 0)).1.tmod t.sun), wayL (solve t) 200 (1, (t.rs.getD i.toNat (0, 0)).1.tmod t.moon) with
  | some a, some b => some (i :: ((strip a.length a b).1 ++ (strip a.length a b).2.reverse), 0)
  | _, _ => none

def ClashS : FSpec := fun xs nx G => match xs with
  | [r] => ofOpt (asTide r) fun t => ofOpt (clashT t) fun c => valR nx G (.tup [.il (ints c.1) (decide (c.2 ≠ 0)), .int .i64 c.2])
  | _ => .fail

theorem way_at (s : List (Node × Edge)) (n : Node) (l : List Int) (h : wayL s 200 n = some l) (nx G : Nat) : wayS [.im (kvs nodA edgeA s), .agg [.int .i64 n.1, .int .i64 n.2]] nx G = .ret ⟨.sl nx G 0 l.length, [(nx, some (.row 1 (ints l) G true))], nx + 1, G + 1⟩ := by
  have e2 := asSol_kvs s
  simp only [kvs] at e2
  simp [wayS, e2, h]

theorem badIx_range (s : List (Node × Edge)) (t : Tide) : ∀ (l : List (Int × Int)) (k : Nat), badIx s t k l = -1 ∨ ∃ i : Nat, badIx s t k l = (k + i : Nat) ∧ i < l.length
  | [], _ => .inl rfl
  | x :: l, k => by
    unfold badIx
    split
    · exact .inr ⟨0, rfl, by simp⟩
    · rcases badIx_range s t l (k + 1) with h | ⟨i, h, hi⟩
      · exact .inl h
      · exact .inr ⟨i + 1, by rw [h]; omega, by simpa using hi⟩

def X12 : Ext := .of [(21, checkS), (46, solveS), (51, wrongS), (52, endsS), (53, wayS), (54, revS), (55, concatIS)] [54]
theorem X12.sound : X12.Sound Try.prog := Ext.of_sound ⟨check_sound, solve_sound, wrong_sound, ends_sound, way_sound, reverse_sound, concatI_sound, trivial⟩
@[simp] theorem X12.r21 : X12.raw 21 = false := rfl
@[simp] theorem X12.r46 : X12.raw 46 = false := rfl
@[simp] theorem X12.r51 : X12.raw 51 = false := rfl
@[simp] theorem X12.r52 : X12.raw 52 = false := rfl
@[simp] theorem X12.r53 : X12.raw 53 = false := rfl
@[simp] theorem X12.r54 : X12.raw 54 = true := rfl
@[simp] theorem X12.r55 : X12.raw 55 = false := rfl
@[simp] theorem X12.s21 : X12.spec 21 = checkS := rfl
@[simp] theorem X12.s46 : X12.spec 46 = solveS := rfl
@[simp] theorem X12.s51 : X12.spec 51 = wrongS := rfl
@[simp] theorem X12.s52 : X12.spec 52 = endsS := rfl
@[simp] theorem X12.s53 : X12.spec 53 = wayS := rfl
@[simp] theorem X12.s54 : X12.spec 54 = revS := rfl
@[simp] theorem X12.s55 : X12.spec 55 = concatIS := rfl

theorem Clash_sound : FSound Try.prog 27 ClashS := by
  refine fsound_pure Try.func27 (by kernel_rfl) rfl _ fun xs nx G d hp h => ?_
  unfold ClashS at h
  split at h
  · rename_i r
    replace h := rd_opt h; obtain ⟨t, ht, h⟩ := h
    replace h := rd_opt h; obtain ⟨c, hcl, h⟩ := h
    obtain ⟨ex, rfl⟩ := asTide_some ht
    have hd := rd_val h
    subst hd
    refine ⟨by simp [Try.f27], all1 (free_tide t ex), ?_⟩
    unfold clashT at hcl
    refine .step X12.sound (by kernel_rfl) (by simp; exact rfl) ?_ -- region 0
    refine .seq (.step X12.sound (by kernel_rfl) (by simp; exact rfl) ?_) -- region 1
    refine .step X12.sound (by kernel_rfl) (by simp; exact rfl) ?_ -- region 2
    refine .cond_split (by simp; exact rfl) (fun hc => ?_) (fun hc => ?_) -- t14
    · have hc' : checkT t ≠ 0 := by simpa using hc
      rw [if_pos hc'] at hcl
      cases hcl
      refine .step X12.sound (by kernel_rfl) (by simp; exact rfl) ?_ -- region 3
      exact .ret ⟨.inr rfl, by simp only; rw [decide_eq_true hc']; exact ends_free (l := [.tmp 2, .tmp 3]) rfl (rs := [.il [] true, .int .i64 (checkT t)]) (by simp) (fun k => by simp) (by simp)⟩
    · have hc' : checkT t = 0 := by simpa using hc
      rw [if_neg (by simpa using hc')] at hcl
      simp only at hcl
      obtain ⟨k1, k2, _⟩ := checkT_zero hc'
      have h1 : t.sun ≠ 0 := by omega
      have h2 : t.moon ≠ 0 := by omega
      refine .skip ?_
      refine .step X12.sound (by kernel_rfl) (by simp [solve_at, k1, k2]; exact rfl) ?_ -- region 4
      refine .step X12.sound (by kernel_rfl) (by simp [h1, h2]; exact rfl) ?_ -- region 5
      refine .seq (.step X12.sound (by kernel_rfl) (by simp; exact rfl) ?_) -- region 6
      refine .cond_split (by simp; exact rfl) (fun hc => ?_) (fun hc => ?_) -- t22
      · have hb : badIx (solve t) t 0 t.rs < 0 := by simpa using hc
        rw [if_pos hb] at hcl
        cases hcl
        refine .step X12.sound (by kernel_rfl) (by simp; exact rfl) ?_ -- region 7
        exact .ret ⟨.inr rfl, ends_free (l := [.tmp 2, .tmp 3]) rfl (rs := [.il [] true, .int .i64 6]) (by simp) (fun k => by simp) (by simp)⟩
      · have hb : ¬ badIx (solve t) t 0 t.rs < 0 := by simpa using hc
        rw [if_neg hb] at hcl
        obtain ⟨i, hi, hil⟩ : ∃ i : Nat, badIx (solve t) t 0 t.rs = i ∧ i < t.rs.length := by
          rcases badIx_range (solve t) t t.rs 0 with h | ⟨i, h, hi⟩
          · rw [h] at hb; exact absurd (by decide) hb
          · exact ⟨i, by simpa using h, hi⟩
        rw [hi] at hcl ⊢
        have hgd : t.rs.getD (i : Int).toNat (0, 0) = t.rs[i] := by simp [hil]
        rw [hgd] at hcl
        split at hcl
        · rename_i a b ha hb
          cases hcl
          have hla := wayL_len _ _ _ _ ha
          have hlb := wayL_len _ _ _ _ hb
          have wa := way_at _ _ _ ha
          have wb := way_at _ _ _ hb
          simp only at wa wb
          refine .skip ?_
          refine .draw mixed X12.sound (by kernel_rfl) (by kernel_rfl) rfl (by simp [ends_at, h1, h2, hil]; exact ⟨rfl, rfl⟩) (looseB_spec (by kernel_rfl)) ?_ -- region 8
          refine .draw mixed X12.sound (by kernel_rfl) (by kernel_rfl) rfl (by simp [wa, wb]; exact ⟨rfl, rfl⟩) (looseB_spec (by kernel_rfl)) ?_ -- region 9
          refine .seq (.block ?_)
          refine .loopV (fun k st => ∃ (la lb G : Nat), la ≤ a.length ∧ lb ≤ b.length ∧ k = la ∧ strip la (a.take la) (b.take lb) = strip a.length a b ∧ st = ⟨[(6, .int .i64 i), (9, .sl 3 3 0 la), (10, .sl 4 4 0 lb)], [(3, some (.row 1 (ints a) 3 true)), (4, some (.row 1 (ints b) 4 true))], 5, G⟩) ?_ (View.norm _ [6, 9, 10] [3, 4] 5 5 (by simp)) ⟨a.length, b.length, 5, by omega, by omega, rfl, by simp, by simp⟩
          rintro la st ⟨_, lb, G1, hA, hB, rfl, hstrip, rfl⟩
          have hwi : ∀ n : Nat, n < 200 → IntKind.i64.wrap (n : Int) = n := fun n h => wrap64 (by omega) (by omega)
          refine .seq ?_
          by_cases cc : ∃ p q, la = p + 1 ∧ lb = q + 1 ∧ a[p]? = b[q]?
          · obtain ⟨p, q, rfl, rfl, hpq⟩ := cc
            obtain ⟨x, hx⟩ : ∃ x, a[p]? = some x := ⟨a[p], List.getElem?_eq_getElem (by omega)⟩
            have hy : b[q]? = some x := by rw [← hpq]; exact hx
            have hw1 := hwi p (by omega)
            have hw2 := hwi q (by omega)
            have hp1 : (0 : Int) < (p : Int) + 1 := by omega
            have hq1 : (0 : Int) < (q : Int) + 1 := by omega
            have hp2 : (p : Int) < (p : Int) + 1 := by omega
            have hq2 : (q : Int) < (q : Int) + 1 := by omega
            have hp3 : (p : Int) ≤ (p : Int) + 1 := by omega
            have hq3 : (q : Int) ≤ (q : Int) + 1 := by omega
            refine .draw mixed X12.sound (by kernel_rfl) (by kernel_rfl) rfl (by simp [hw1, hw2, hx, hy, hp1, hq1, hp2, hq2]; exact ⟨rfl, rfl⟩) (looseB_spec (by kernel_rfl)) ?_ -- region 10
            refine .cond (t := true) (by simp) (.skip (.block ?_))
            refine .drawn mixed X12.sound (by kernel_rfl) (by kernel_rfl) (runD_tr (by simp [hw1, hw2, hp3, hq3]; exact ⟨rfl, rfl⟩)) (looseB_spec (by kernel_rfl)) ?_ -- region 11
            refine ⟨_, _, View.norm _ [6, 9, 10] [3, 4] 5 G1 (by simp), ?_, p, q, G1, by omega, by omega, rfl, ?_, ?_⟩
            · omega
            · rw [← hstrip]; exact (strip_step a b p q (by omega) (by omega) hpq).symm
            · simp
          · have hfin : strip a.length a b = (a.take la, b.take lb) := by
              rw [← hstrip]
              refine strip_stop _ _ _ fun ⟨g1, g2, g3⟩ => cc ?_
              have e1 : (a.take la).length = la := by simp; omega
              have e2 : (b.take lb).length = lb := by simp; omega
              rw [e1] at g1 g3
              rw [e2] at g2 g3
              refine ⟨la - 1, lb - 1, by omega, by omega, ?_⟩
              rw [List.getD_eq_getElem?_getD, List.getD_eq_getElem?_getD, List.getElem?_take, List.getElem?_take, if_pos (by omega), if_pos (by omega), List.getElem?_eq_getElem (by omega), List.getElem?_eq_getElem (by omega)] at g3
              rw [List.getElem?_eq_getElem (by omega), List.getElem?_eq_getElem (by omega)]
              simpa using g3
            rw [hfin]
            have hrev : List.take lb (ints (revN lb b)) = ints (b.take lb).reverse := by
              rw [ints, ← List.map_take]
              congr 1
              simp only [revN]
              rw [List.take_append_of_le_length (by simp; omega), List.take_of_length_le (by simp; omega)]
            have htk : List.take la (ints a) = ints (a.take la) := by rw [ints, ← List.map_take]
            have hconc : ∀ (nx G : Nat), concatIS [.il [[.il [[.int .i64 (i : Int)]] false], [.il (List.take la (ints a)) false], [.il (List.take lb (ints (revN lb b))) false]] false] nx G = valR nx G (.il (ints ((i : Int) :: (a.take la ++ (b.take lb).reverse))) false) := by
              intro nx G
              rw [hrev, htk]
              have e1 := asRowsI_rows [([(i : Int)], false), (a.take la, false), ((b.take lb).reverse, false)]
              have e2 : rowsI [([(i : Int)], false), (a.take la, false), ((b.take lb).reverse, false)] = [[.il [[.int .i64 (i : Int)]] false], [.il (ints (a.take la)) false], [.il (ints (b.take lb).reverse) false]] := rfl
              rw [e2] at e1
              have e3 : (flatI [([(i : Int)], false), (a.take la, false), ((b.take lb).reverse, false)]).length ≤ 100000 := by simp [flatI]; omega
              simp only [concatIS, e1, ofOpt, e3, if_true]
              simp [flatI]
            have hcase : (la = 0) ∨ (∃ p, la = p + 1 ∧ lb = 0) ∨ ∃ p q x y, la = p + 1 ∧ lb = q + 1 ∧ a[p]? = some x ∧ b[q]? = some y ∧ x ≠ y := by
              rcases la with _ | p
              · exact .inl rfl
              rcases lb with _ | q
              · exact .inr (.inl ⟨p, rfl, rfl⟩)
              have e1 : a[p]? = some a[p] := List.getElem?_eq_getElem (by omega)
              have e2 : b[q]? = some b[q] := List.getElem?_eq_getElem (by omega)
              exact .inr (.inr ⟨p, q, _, _, rfl, rfl, e1, e2, fun h => cc ⟨p, q, rfl, rfl, by rw [e1, e2, h]⟩⟩)
            rcases hcase with rfl | ⟨p, rfl, rfl⟩ | ⟨p, q, x, y, rfl, rfl, hx, hy, hxy⟩
            · refine .draw mixed X12.sound (by kernel_rfl) (by kernel_rfl) rfl (by simp; exact ⟨rfl, rfl⟩) (looseB_spec (by kernel_rfl)) ?_ -- region 10
              refine .cond (t := false) (by simp) (.exit ?_)
              refine .step X12.sound (by kernel_rfl) (by simp [revS, hB]; exact rfl) ?_ -- region 12
              simp only [List.take_zero] at hconc
              refine .step X12.sound (by kernel_rfl) (by simp [hconc]; exact rfl) ?_ -- region 13
              exact .ret ⟨.inr rfl, ends_free (l := [.tmp 2, .tmp 3]) rfl (rs := [.il (ints ((i : Int) :: (a.take 0 ++ (b.take lb).reverse))) false, .int .i64 0]) (by simp) (fun k => by simp) (all2 (free_ints _ _) (.int _ _))⟩
            · have hp1 : (0 : Int) < (p : Int) + 1 := by omega
              refine .draw mixed X12.sound (by kernel_rfl) (by kernel_rfl) rfl (by simp [hp1]; exact ⟨rfl, rfl⟩) (looseB_spec (by kernel_rfl)) ?_ -- region 10
              refine .cond (t := false) (by simp) (.exit ?_)
              refine .step X12.sound (by kernel_rfl) (by simp [revS]; exact rfl) ?_ -- region 12
              simp only [List.take_zero] at hconc
              refine .step X12.sound (by kernel_rfl) (by simp [hconc]; exact rfl) ?_ -- region 13
              exact .ret ⟨.inr rfl, ends_free (l := [.tmp 2, .tmp 3]) rfl (rs := [.il (ints ((i : Int) :: (a.take (p + 1) ++ (b.take 0).reverse))) false, .int .i64 0]) (by simp) (fun k => by simp) (all2 (free_ints _ _) (.int _ _))⟩
            · have hw1 := hwi p (by omega)
              have hw2 := hwi q (by omega)
              have hp1 : (0 : Int) < (p : Int) + 1 := by omega
              have hq1 : (0 : Int) < (q : Int) + 1 := by omega
              have hp2 : (p : Int) < (p : Int) + 1 := by omega
              have hq2 : (q : Int) < (q : Int) + 1 := by omega
              refine .draw mixed X12.sound (by kernel_rfl) (by kernel_rfl) rfl (by simp [hw1, hw2, hx, hy, hp1, hq1, hp2, hq2]; exact ⟨rfl, rfl⟩) (looseB_spec (by kernel_rfl)) ?_ -- region 10
              refine .cond (t := false) (by simp [hxy]) (.exit ?_)
              refine .step X12.sound (by kernel_rfl) (by simp [revS, hB]; exact rfl) ?_ -- region 12
              refine .step X12.sound (by kernel_rfl) (by simp [hconc]; exact rfl) ?_ -- region 13
              exact .ret ⟨.inr rfl, ends_free (l := [.tmp 2, .tmp 3]) rfl (rs := [.il (ints ((i : Int) :: (a.take (p + 1) ++ (b.take (q + 1)).reverse))) false, .int .i64 0]) (by simp) (fun k => by simp) (all2 (free_ints _ _) (.int _ _))⟩
        · cases hcl
  · exact (rd_fail h).elim

end Go.Proofs.Ytlidakhdcnkabaa

namespace Go.Proofs.Ytlidakhdcnkabaa
open Go.AI
set_option linter.unusedSimpArgs false

def sunsOf (s : List (Node × Edge)) (l : List Node) : List Int := (l.filter fun n => decide (n.1 = 0)).map fun n => ((getK n s).getD zeroE).w
def moonsOf (s : List (Node × Edge)) (l : List Node) : List Int := (l.filter fun n => !decide (n.1 = 0)).map fun n => ((getK n s).getD zeroE).w

theorem sunsOf_snoc (s : List (Node × Edge)) (l : List Node) (n : Node) : sunsOf s (l ++ [n]) = if n.1 = 0 then sunsOf s l ++ [((getK n s).getD zeroE).w] else sunsOf s l := by
  simp only [sunsOf, List.filter_append, List.filter_cons, List.filter_nil]
  by_cases h : n.1 = 0 <;> simp [h]
theorem moonsOf_snoc (s : List (Node × Edge)) (l : List Node) (n : Node) : moonsOf s (l ++ [n]) = if n.1 = 0 then moonsOf s l else moonsOf s l ++ [((getK n s).getD zeroE).w] := by
  simp only [moonsOf, List.filter_append, List.filter_cons, List.filter_nil]
  by_cases h : n.1 = 0 <;> simp [h]
theorem sunsOf_len (s : List (Node × Edge)) (l : List Node) : (sunsOf s l).length ≤ l.length := by
  simp only [sunsOf, List.length_map]; exact List.length_filter_le _ _
theorem moonsOf_len (s : List (Node × Edge)) (l : List Node) : (moonsOf s l).length ≤ l.length := by
  simp only [moonsOf, List.length_map]; exact List.length_filter_le _ _

def wavesT (t : Tide) : List Int × List Int × Int := if (solvedT t).2 ≠ 0 then ([], [], (solvedT t).2) else (sunsOf (solve t) (allNodes t), moonsOf (solve t) (allNodes t), 0)

def WavesS : FSpec := fun xs nx G => match xs with
  | [r] => ofOpt (asTide r) fun t => .ret ⟨.tup [.sl nx G 0 (wavesT t).1.length, .sl (nx + 1) (G + 1) 0 (wavesT t).2.1.length, .int .i64 (wavesT t).2.2], [(nx, some (.row 1 (ints (wavesT t).1) G true)), (nx + 1, some (.row 1 (ints (wavesT t).2.1) (G + 1) true))], nx + 2, G + 2⟩
  | _ => .fail

theorem free_row_ints (l : List Int) : ∀ e ∈ ints l, ∀ a ∈ e, Free a := free_rows _ _ fun x a ha => by simp only [List.mem_singleton] at ha; subst ha; exact .int _ _

theorem Waves_sound : FSound Try.prog 14 WavesS := by
  refine fsound_pure Try.func14 (by kernel_rfl) rfl _ fun xs nx G d hp h => ?_
  unfold WavesS at h
  split at h
  · rename_i r
    replace h := rd_opt h; obtain ⟨t, ht, h⟩ := h
    obtain ⟨ex, rfl⟩ := asTide_some ht
    simp only [Rd.run, Option.some.injEq] at h
    subst h
    refine ⟨by simp [Try.f14], all1 (free_tide t ex), ?_⟩
    refine .step X9.sound (by kernel_rfl) (by simp; exact rfl) ?_ -- region 0
    refine .step X9.sound (by kernel_rfl) (by simp; exact rfl) ?_ -- region 1
    refine .seq (.step X9.sound (by kernel_rfl) (by simp; exact rfl) ?_) -- region 2
    have fin : ∀ (s : St) (a b : List Int) (e : Int) (ga gb : Nat), tget s.tmps 2 = .ptr 1 1 0 0 → tget s.tmps 3 = .ptr 2 2 0 0 → tget s.tmps 4 = .int .i64 e → hget s.heap 1 = some (.row 1 [[.sl 4 ga 0 a.length]] 1 true) → hget s.heap 2 = some (.row 1 [[.sl 5 gb 0 b.length]] 2 true) →
        hget s.heap 4 = some (.row 1 (ints a) ga true) → hget s.heap 5 = some (.row 1 (ints b) gb true) →
        Ends0 Try.prog Try.f14 s nx G ⟨.tup [.sl nx G 0 a.length, .sl (nx + 1) (G + 1) 0 b.length, .int .i64 e], [(nx, some (.row 1 (ints a) G true)), (nx + 1, some (.row 1 (ints b) (G + 1) true))], nx + 2, G + 2⟩ := by
      intro s a b e ga gb h2 h3 h4 k1 k2 k4 k5
      refine ⟨[.sl 4 ga 0 a.length, .sl 5 gb 0 b.length, .int .i64 e], [.sl 4 ga 0 a.length, .sl 5 gb 0 b.length, .int .i64 e], [], [.sl nx G 0 a.length, .sl (nx + 1) (G + 1) 0 b.length, .int .i64 e], [(nx, some (.row 1 (ints a) G true)), (nx + 1, some (.row 1 (ints b) (G + 1) true))], [4, 5], ?_, ?_, .row (b := 4) (by simp [hupd, k4]) (free_row_ints a) (.row (b := 5) (by simp [hupd, k5]) (free_row_ints b) (.keep (.int _ _) (.nil _ _))), by simp, rfl⟩
      · rw [show Try.f14.results.toList = [.cell 2 30, .cell 3 30, .tmp 4] from rfl]; simp [h2, h3, h4, k1, k2]
      · simp [k4, k5]
    refine .cond_split (by simp; exact rfl) (fun hc => ?_) (fun hc => ?_) -- t13
    · have hc' : (solvedT t).2 ≠ 0 := by simpa using hc
      have : wavesT t = ([], [], (solvedT t).2) := by simp [wavesT, hc']
      rw [this]
      refine .step X9.sound (by kernel_rfl) (by simp; exact rfl) ?_ -- region 3
      refine .view (View.norm _ [2, 3, 4] [1, 2] 6 6 (by simp)) ?_
      refine .view (View.virtCell _ 1 1 1 4 1 0 true true [.il [] true] (by simp) rfl (by simp)) ?_
      refine .view (View.virtCell _ 2 2 1 5 1 0 true true [.il [] true] (by simp) rfl (by simp)) ?_
      exact .ret ⟨.inr rfl, fin _ [] [] _ 6 7 (by simp) (by simp) (by simp) (by simp) (by simp) (by simp) (by simp)⟩
    · have hc' : (solvedT t).2 = 0 := by simpa using hc
      obtain ⟨h0, hs, _⟩ := solvedT_zero hc'
      obtain ⟨k1, k2, _⟩ := checkT_zero h0
      have hw : wavesT t = (sunsOf (solve t) (allNodes t), moonsOf (solve t) (allNodes t), 0) := by simp [wavesT, hc']
      rw [hw, hs]
      have e1 : (t.sun.toNat : Int) = t.sun := by omega
      have e2 : (t.moon.toNat : Int) = t.moon := by omega
      have hall := all_nodes_len t k1.2 k2.2
      have it := nodes_iter t.sun.toNat t.moon.toNat (.il (t.rs.map fun x => [.int .i64 x.1, .int .i64 x.2]) ex)
      rw [e1, e2, nodes_all] at it
      refine .skip (.seq ?_)
      refine .step X9.sound (by kernel_rfl) (by simp [nodes_at]; exact rfl) (.block ?_) -- region 4
      refine .view (View.norm _ [2, 3, 5, 16] [0, 1, 2, 3] 6 6 (by simp)) ?_
      refine .view (View.virtCell _ 1 1 1 4 1 0 true true [.il [] true] (by simp) rfl (by simp)) ?_
      refine .view (View.virtCell _ 2 2 1 5 1 0 true true [.il [] true] (by simp) rfl (by simp)) ?_
      refine .view (View.norm _ [2, 3, 5, 16] [0, 1, 2, 3, 4, 5] 6 8 (by simp)) ?_
      refine .rangeFunc nodes_enter (by simp [Try.f14]) (by simp) (it _ (by omega) (by omega)) (fun i h nx G => nx = 6 ∧ ∃ ga gb, h = [(0, some (.row 3 [tideC t ex] 0 true)), (1, some (.row 1 [[.sl 4 ga 0 (sunsOf (solve t) ((allNodes t).take i)).length]] 1 true)), (2, some (.row 1 [[.sl 5 gb 0 (moonsOf (solve t) ((allNodes t).take i)).length]] 2 true)), (3, some (.row 1 [[.im (kvs nodA edgeA (solve t))]] 3 true)), (4, some (.row 1 (ints (sunsOf (solve t) ((allNodes t).take i))) ga true)), (5, some (.row 1 (ints (moonsOf (solve t) ((allNodes t).take i))) gb true))]) ?_ ?_ ?_ ?_
      · exact ⟨rfl, 6, 7, by simp [sunsOf, moonsOf]⟩
      · simp
      · rintro l i x h nx G1 ⟨rfl, ga, gb, rfl⟩ hx
        obtain ⟨n, hn, rfl⟩ : ∃ n, (allNodes t)[i]? = some n ∧ nodA n = x := by simpa using hx
        have hsn := sunsOf_snoc (solve t) ((allNodes t).take i) n
        have hmn := moonsOf_snoc (solve t) ((allNodes t).take i) n
        have htk : (allNodes t).take (i + 1) = (allNodes t).take i ++ [n] := by rw [List.take_add_one, hn]; rfl
        have hl1 := sunsOf_len (solve t) ((allNodes t).take i)
        have hl2 := moonsOf_len (solve t) ((allNodes t).take i)
        have hl3 : ((allNodes t).take i).length ≤ 60 := by simp; omega
        rw [htk]
        generalize sunsOf (solve t) ((allNodes t).take i) = a at *
        generalize moonsOf (solve t) ((allNodes t).take i) = b at *
        refine .region X9.sound (by kernel_rfl) (by simp; exact rfl) ⟨rfl, ?_⟩ -- region 5
        refine .block (.step X9.sound (by kernel_rfl) (by simp; exact rfl) ?_) -- region 6
        refine .cond_split (by simp; exact rfl) (fun hc => ?_) (fun hc => ?_) -- t20
        · have hc' : n.1 = 0 := by simpa using hc
          rw [if_pos hc'] at hsn hmn
          have hroom : (a.length + 1) * 8 ≤ room := by simp [room]; omega
          refine .drawn mixed X9.sound (by kernel_rfl) (by kernel_rfl) (runD_tr (by simp [-lookupR, look_way, elems, appR, hroom]; exact ⟨rfl, rfl⟩)) (looseB_spec (by kernel_rfl)) ⟨rfl, ?_⟩ -- region 7
          refine ⟨_, View.norm _ [] [0, 1, 2, 3, 4, 5] 6 (G1 + 3) (by simp), rfl, G1 + 2, gb, ?_⟩
          rw [hsn, hmn]
          simp
          rw [List.take_of_length_le (by simp)]
        · have hc' : ¬ n.1 = 0 := by simpa using hc
          rw [if_neg hc'] at hsn hmn
          have hroom : (b.length + 1) * 8 ≤ room := by simp [room]; omega
          refine .drawn mixed X9.sound (by kernel_rfl) (by kernel_rfl) (runD_tr (by simp [-lookupR, look_way, elems, appR, hroom]; exact ⟨rfl, rfl⟩)) (looseB_spec (by kernel_rfl)) ⟨rfl, ?_⟩ -- region 8
          refine ⟨_, View.norm _ [] [0, 1, 2, 3, 4, 5] 6 (G1 + 3) (by simp), rfl, ga, G1 + 2, ?_⟩
          rw [hsn, hmn]
          simp
          rw [List.take_of_length_le (by simp)]
      · rintro h nx' G1 ⟨rfl, ga, gb, rfl⟩
        have hfull : (allNodes t).take ((allNodes t).map nodA).length = allNodes t := by simp
        rw [hfull]
        refine .draw mixed X9.sound (by kernel_rfl) (by kernel_rfl) rfl (by simp; exact ⟨rfl, rfl⟩) (looseB_spec (by kernel_rfl)) ?_ -- region 9
        exact .ret ⟨.inr rfl, fin _ _ _ _ ga gb (by simp) (by simp) (by simp) (by simp) (by simp) (by simp) (by simp)⟩
  · exact (rd_fail h).elim

end Go.Proofs.Ytlidakhdcnkabaa

namespace Go.Proofs.Ytlidakhdcnkabaa
open Go.AI
set_option linter.unusedSimpArgs false

/-- Without a reading. -/
def dropAt (t : Tide) (i : Nat) : Tide := ⟨t.sun, t.moon, t.rs.take i ++ t.rs.drop (i + 1)⟩
def goodAt (t : Tide) (i : Nat) : Bool := decide (badIx (solve (dropAt t i)) (dropAt t i) 0 (dropAt t i).rs < 0)
def suspL (t : Tide) (n : Nat) : List Int := ((List.range n).filter (goodAt t)).map fun i : Nat => (i : Int)

theorem suspL_succ (t : Tide) (n : Nat) : suspL t (n + 1) = if goodAt t n = true then suspL t n ++ [(n : Int)] else suspL t n := by
  simp only [suspL, List.range_succ, List.filter_append, List.filter_cons, List.filter_nil]
  split <;> simp

theorem suspL_len (t : Tide) (n : Nat) : (suspL t n).length ≤ n := by
  simp only [suspL, List.length_map]
  exact Nat.le_trans (List.length_filter_le _ _) (by simp)

def suspT (t : Tide) : List Int × Int := if checkT t ≠ 0 then ([], checkT t) else (suspL t t.rs.length, 0)

def SuspectsS : FSpec := fun xs nx G => match xs with
  | [r] => ofOpt (asTide r) fun t => valR nx G (.tup [.il (ints (suspT t).1) (decide ((suspT t).2 ≠ 0)), .int .i64 (suspT t).2])
  | _ => .fail

def X13 : Ext := .of [(21, checkS), (46, solveS), (51, wrongS), (50, concatPS)] []
theorem X13.sound : X13.Sound Try.prog := Ext.of_sound ⟨check_sound, solve_sound, wrong_sound, concatP_sound, trivial⟩
@[simp] theorem X13.raw_ (f : FuncId) : X13.raw f = false := rfl
@[simp] theorem X13.s21 : X13.spec 21 = checkS := rfl
@[simp] theorem X13.s46 : X13.spec 46 = solveS := rfl
@[simp] theorem X13.s51 : X13.spec 51 = wrongS := rfl
@[simp] theorem X13.s50 : X13.spec 50 = concatPS := rfl

theorem concatP_at (a b : List (Int × Int)) (e1 e2 : Bool) (h : a.length + b.length ≤ 100000) (nx G : Nat) : concatPS [.il [[.il (pairs a) e1], [.il (pairs b) e2]] false] nx G = valR nx G (.il (pairs (a ++ b)) false) := by
  have h1 := asRowsP_rows [(a, e1), (b, e2)]
  have h2 : rowsP [(a, e1), (b, e2)] = [[.il (pairs a) e1], [.il (pairs b) e2]] := rfl
  rw [h2] at h1
  have h3 : (flatP [(a, e1), (b, e2)]).length ≤ 100000 := by simp [flatP]; omega
  simp only [concatPS, h1, ofOpt, h3, if_true]
  simp [flatP]

theorem Suspects_sound : FSound Try.prog 23 SuspectsS := by
  refine fsound_pure Try.func23 (by kernel_rfl) rfl _ fun xs nx G d hp h => ?_
  unfold SuspectsS at h
  split at h
  · rename_i r
    replace h := rd_opt h; obtain ⟨t, ht, h⟩ := h
    obtain ⟨ex, rfl⟩ := asTide_some ht
    have hd := rd_val h
    subst hd
    refine ⟨by simp [Try.f23], all1 (free_tide t ex), ?_⟩
    refine .step X13.sound (by kernel_rfl) (by simp; exact rfl) ?_ -- region 0
    refine .seq (.step X13.sound (by kernel_rfl) (by simp; exact rfl) ?_) -- region 1
    refine .step X13.sound (by kernel_rfl) (by simp; exact rfl) ?_ -- region 2
    refine .cond_split (by simp; exact rfl) (fun hc => ?_) (fun hc => ?_) -- t11
    · have hc' : checkT t ≠ 0 := by simpa using hc
      have : suspT t = ([], checkT t) := by simp [suspT, hc']
      rw [this]
      refine .step X13.sound (by kernel_rfl) (by simp; exact rfl) ?_ -- region 3
      exact .ret ⟨.inr rfl, by simp only; rw [decide_eq_true hc']; exact ends_free (l := [.tmp 2, .tmp 3]) rfl (rs := [.il [] true, .int .i64 (checkT t)]) (by simp) (fun k => by simp) (by simp)⟩
    · have hc' : checkT t = 0 := by simpa using hc
      obtain ⟨k1, k2, k3, _⟩ := checkT_zero hc'
      have h1 : t.sun ≠ 0 := by omega
      have h2 : t.moon ≠ 0 := by omega
      have : suspT t = (suspL t t.rs.length, 0) := by simp [suspT, hc']
      rw [this]
      have hok : okEs 2 (pairs t.rs) = true := by simp [okEs, AVal.sc]
      refine .skip ?_
      refine .step X13.sound (by kernel_rfl) (by simp; exact rfl) ?_ -- region 4
      refine .view (View.virt _ 5 1 1 true (by simp)) ?_
      refine .seq (.step X13.sound (by kernel_rfl) (by simp; exact rfl) (.block ?_)) -- region 5
      refine .loopV (fun k st => ∃ (j g G : Nat), j ≤ t.rs.length ∧ k = t.rs.length - j ∧ st = ⟨[(1, .ptr 0 0 0 0), (5, .sl 1 g 0 (suspL t j).length), (15, .int .i64 t.rs.length), (16, .int .i64 j)], [(0, some (.row 3 [tideC t ex] 0 true)), (1, some (.row 1 (ints (suspL t j)) g true))], 2, G⟩) ?_ (View.norm _ [1, 5, 15, 16] [0, 1] 2 2 (by simp)) ⟨0, 1, 2, by omega, rfl, by simp [suspL]⟩
      rintro k st ⟨j, g, G1, hj, rfl, rfl⟩
      refine .step X13.sound (by kernel_rfl) (by simp; exact rfl) ?_ -- region 6
      refine .seq (.cond_split (by simp; exact rfl) (fun hc => ?_) (fun hc => ?_)) -- t17
      · have hj' : j < t.rs.length := by simpa using hc
        have hw1 : IntKind.i64.wrap ((j : Int) + 1) = (j : Int) + 1 := wrap64 (by omega) (by omega)
        have hl := suspL_len t j
        have hsucc := suspL_succ t j
        have hroom : ((suspL t j).length + 1) * 8 ≤ room := by simp [room]; omega
        have g1 : (j : Int) ≤ t.rs.length := by omega
        have g2 : (j : Int) + 1 ≤ t.rs.length := by omega
        have g3 : (0 : Int) ≤ (j : Int) + 1 := by omega
        have g4 : ((j : Int) + 1).toNat = j + 1 := by omega
        have g5 : ((t.rs.length : Int) - ((j : Int) + 1)).toNat = t.rs.length - (j + 1) := by omega
        have hB : List.take (t.rs.length - (j + 1)) (List.drop (j + 1) (pairs t.rs)) = List.drop (j + 1) (pairs t.rs) := List.take_of_length_le (by simp)
        have hcon : ∀ e1 e2 nx G, concatPS [.il [[.il (List.take j (pairs t.rs)) e1], [.il (List.drop (j + 1) (pairs t.rs)) e2]] false] nx G = valR nx G (.il (pairs (dropAt t j).rs) false) := by
          intro e1 e2 nx G
          have := concatP_at (t.rs.take j) (t.rs.drop (j + 1)) e1 e2 (by simp; omega) nx G
          rw [pairs, pairs, List.map_take, List.map_drop] at this
          exact this
        have hso : ∀ nx G, solveS [.agg [.int .i64 t.sun, .int .i64 t.moon, .il (pairs (dropAt t j).rs) false]] nx G = valR nx G (.im (kvs nodA edgeA (solve (dropAt t j)))) := fun nx G => solve_at (dropAt t j) false ⟨k1, k2⟩ nx G
        have hwr : ∀ nx G, wrongS [.agg [.int .i64 t.sun, .int .i64 t.moon, .il (pairs (dropAt t j).rs) false], .im (kvs nodA edgeA (solve (dropAt t j)))] nx G = valR nx G (.int .i64 (badIx (solve (dropAt t j)) (dropAt t j) 0 (dropAt t j).rs)) := fun nx G => wrong_at (dropAt t j) false (solve (dropAt t j)) h1 h2 nx G
        refine .skip (.seq (.block ?_))
        refine .step X13.sound (by kernel_rfl) (by simp; exact rfl) ?_ -- region 7
        refine .step X13.sound (by kernel_rfl) (by simp; exact rfl) ?_ -- region 8
        refine .draw mixed X13.sound (by kernel_rfl) (by kernel_rfl) rfl (by simp [hw1, g1, g2, g3, g4, g5, hok, hB, hcon]; exact ⟨rfl, rfl⟩) (looseB_spec (by kernel_rfl)) ?_ -- region 9
        refine .draw mixed X13.sound (by kernel_rfl) (by kernel_rfl) rfl (by simp [hso, hwr]; exact ⟨rfl, rfl⟩) (looseB_spec (by kernel_rfl)) ?_ -- region 10
        refine .cond_split (by simp; exact rfl) (fun hc => ?_) (fun hc => ?_) -- t36
        · rw [if_pos (show goodAt t j = true from hc)] at hsucc
          refine .region X13.sound (by kernel_rfl) (by simp [elems, appR, hroom]; exact rfl) ?_ -- region 11
          refine .region X13.sound (by kernel_rfl) (by simp [hw1]; exact rfl) ?_ -- region 12
          refine ⟨_, _, View.norm _ [1, 5, 15, 16] [0, 1] 2 (G1 + 4) (by simp), ?_, j + 1, G1 + 3, G1 + 4, by omega, rfl, ?_⟩
          · omega
          · rw [hsucc]
            simp
            rw [List.take_of_length_le (by simp)]
        · rw [if_neg (by rw [show goodAt t j = false from hc]; simp)] at hsucc
          refine .skip (.region X13.sound (by kernel_rfl) (by simp [hw1]; exact rfl) ?_) -- region 12
          refine ⟨_, _, View.norm _ [1, 5, 15, 16] [0, 1] 2 (G1 + 4) (by simp), ?_, j + 1, g, G1 + 4, by omega, rfl, ?_⟩
          · omega
          · rw [hsucc]
            simp
      · have : j = t.rs.length := by simp at hc; omega
        subst this
        refine .exit (.step X13.sound (by kernel_rfl) (by simp; exact rfl) ?_) -- region 13
        refine .view (View.fzT _ 2 (by simp; exact ⟨rfl, rfl⟩)) ?_
        exact .ret ⟨.inr rfl, ends_free (l := [.tmp 2, .tmp 3]) rfl (rs := [.il (ints (suspL t t.rs.length)) false, .int .i64 0]) (by simp; exact List.take_of_length_le (by simp)) (fun k => by simp) (all2 (free_ints _ _) (.int _ _))⟩
  · exact (rd_fail h).elim

end Go.Proofs.Ytlidakhdcnkabaa
