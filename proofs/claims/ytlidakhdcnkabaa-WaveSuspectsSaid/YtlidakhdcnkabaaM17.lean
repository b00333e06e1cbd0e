/- The reference's Verify and Suspects. The reference's Suspects. No condition. -/
import Derived.Test.YtlidakhdcnkabaaM16
namespace Go.Proofs.Ytlidakhdcnkabaa
open Go.AI
set_option linter.unusedSimpArgs false

/-- Along a ring: at its start? an odd place? the first reading, the one before, the sum. -/
def rVerL (t : Tide) : Bool → Bool → Int × Int → Int × Int → Int → List Int → Int
  | _, _, first, prev, sum, [] => if first.1.tmod t.moon ≠ prev.1.tmod t.moon then 5 else if sum = 0 then 12 else 0
  | st, odd, first, prev, sum, i :: l =>
    if 0 ≤ i ∧ i ≤ (t.rs.length : Int) - 1 then
      let x := t.rs.getD i.toNat (0, 0)
      if odd = true then (if x.1.tmod t.sun ≠ prev.1.tmod t.sun then 5 else rVerL t false false (if st = true then x else first) x (IntKind.i64.wrap (sum - x.2)) l)
      else (if st = false ∧ x.1.tmod t.moon ≠ prev.1.tmod t.moon then 5 else rVerL t false true (if st = true then x else first) x (IntKind.i64.wrap (sum + x.2)) l)
    else 6

def rVerifyT (t : Tide) (ring : List Int) : Int :=
  if checkT t ≠ 0 then checkT t else if (2 ≤ ring.length ∧ ring.length ≤ 60) ∧ ring.length % 2 = 0 then rVerL t true false (0, 0) (0, 0) 0 ring else 4

def RVerifyS : FSpec := fun xs nx G => match xs with
  | [r, .il es _] => ofOpt (asTide r) fun t => ofOpt (asInts es) fun l => valR nx G (.int .i64 (rVerifyT t l))
  | _ => .fail

theorem RVerify_sound : FSound Try.prog 26 RVerifyS := by
  refine fsound_pure Try.func26 (by kernel_rfl) rfl _ fun xs nx G d hp h => ?_
  unfold RVerifyS at h
  split at h
  · rename_i r es ex1
    replace h := rd_opt h; obtain ⟨t, ht, h⟩ := h
    replace h := rd_opt h; obtain ⟨ring, hl, h⟩ := h
    obtain ⟨ex, rfl⟩ := asTide_some ht
    have := asInts_some hl; subst this
    have hd := rd_val h
    subst hd
    refine ⟨by simp [Try.f26], all2 (free_tide t ex) (free_ints _ _), ?_⟩
    have one : ∀ {s : St} {v : Int}, tget s.tmps 4 = .int .i64 v → Ends0 Try.prog Try.f26 s nx G ⟨.int .i64 v, [], nx, G⟩ := fun {s v} hv => ends_free (l := [.tmp 4]) rfl (rs := [.int .i64 v]) (by simp [hv]) (fun k => by simp) (by simp)
    refine .step X16.sound (by kernel_rfl) (by simp; exact rfl) ?_ -- region 0
    refine .step X16.sound (by kernel_rfl) (by simp; exact rfl) ?_ -- region 1
    refine .seq (.step X16.sound (by kernel_rfl) (by simp; exact rfl) ?_) -- region 2
    refine .cond_split (by simp; exact rfl) (fun hc => ?_) (fun hc => ?_) -- t12
    · have hc' : checkT t ≠ 0 := by simpa using hc
      have : rVerifyT t ring = checkT t := by simp [rVerifyT, hc']
      rw [this]
      exact .step X16.sound (by kernel_rfl) (by simp; exact rfl) (.ret ⟨.inr rfl, one (by simp)⟩) -- region 3
    · have hc' : checkT t = 0 := by simpa using hc
      have hok := check_ok hc'
      obtain ⟨k1, k2, hlen60, _⟩ := checkT_zero hc'
      have h1 : t.sun ≠ 0 := by omega
      have h2 : t.moon ≠ 0 := by omega
      have hwl : IntKind.i64.wrap ((t.rs.length : Int) - 1) = (t.rs.length : Int) - 1 := wrap64 (by omega) (by omega)
      refine .skip (.seq ?_)
      by_cases r1 : 2 ≤ (ring.length : Int) ∧ (ring.length : Int) ≤ 60
      · have ht2 : ((ring.length : Int).tmod 2) = ((ring.length % 2 : Nat) : Int) := by rw [Int.tmod_eq_emod_of_nonneg (by omega)]; omega
        by_cases r2 : ring.length % 2 = 0
        · have hv : rVerifyT t ring = rVerL t true false (0, 0) (0, 0) 0 ring := by
            simp only [rVerifyT, hc', ne_eq, not_true, if_false]
            rw [if_pos ⟨by omega, r2⟩]
          rw [hv]
          have r2' : ((ring.length : Int).tmod 2) = 0 := by rw [ht2, r2]; rfl
          refine .step X16.sound (by kernel_rfl) (by simp [r1.1, r1.2, r2']; exact rfl) ?_ -- region 4
          refine .cond (t := false) (by simp) (.skip ?_)
          refine .step X16.sound (by kernel_rfl) (by simp; exact rfl) ?_ -- region 6
          refine .seq (.step X16.sound (by kernel_rfl) (by simp; exact rfl) (.block ?_)) -- region 7
          refine .loopV (fun k st => ∃ (j : Nat) (first prev : Int × Int) (sum : Int) (G : Nat), j ≤ ring.length ∧ k = ring.length - j ∧ rVerL t (decide (j = 0)) (decide (j % 2 = 1)) first prev sum (ring.drop j) = rVerL t true false (0, 0) (0, 0) 0 ring ∧
              (j = 0 ∨ ∃ q i i0, j = q + 1 ∧ ring[q]? = some ((i : Nat) : Int) ∧ t.rs[i]? = some prev ∧ ring[0]? = some ((i0 : Nat) : Int) ∧ t.rs[i0]? = some first) ∧
            st = ⟨[(1, .il (ints ring) ex1), (2, .ptr 0 0 0 0), (6, .int .i64 sum), (7, .int .i64 j)], [(0, some (.row 3 [tideC t ex] 0 true))], 1, G⟩) ?_ (View.norm _ [1, 2, 6, 7] [0] 1 1 (by simp)) ⟨0, (0, 0), (0, 0), 0, 1, by omega, rfl, rfl, .inl rfl, by simp⟩
          rintro k st ⟨j, first, prev, sum, G1, hj, rfl, hver, hprev, rfl⟩
          refine .seq (.step X16.sound (by kernel_rfl) (by simp; exact rfl) ?_) -- region 8
          refine .cond_split (by simp; exact rfl) (fun hc => ?_) (fun hc => ?_) -- t27
          · have hj' : j < ring.length := by simpa using hc
            have hdrop : ring.drop j = ring[j] :: ring.drop (j + 1) := List.drop_eq_getElem_cons hj'
            obtain ⟨x, hx⟩ : ∃ x, x = ring[j] := ⟨_, rfl⟩
            have hjx : ring[j]? = some x := by rw [List.getElem?_eq_getElem hj', hx]
            rw [hdrop, rVerL, ← hx] at hver
            have hw1 : IntKind.i64.wrap ((j : Int) + 1) = (j : Int) + 1 := wrap64 (by omega) (by omega)
            refine .skip (.seq (.block (.seq ?_)))
            by_cases hr : 0 ≤ x ∧ x ≤ (t.rs.length : Int) - 1
            · rw [if_pos hr] at hver
              refine .draw mixed X16.sound (by kernel_rfl) (by kernel_rfl) rfl (by simp [hj', ← hx, hwl, hr.1, hr.2]; exact ⟨rfl, rfl⟩) (looseB_spec (by kernel_rfl)) ?_ -- region 10
              refine .cond (t := false) (by simp) (.skip ?_)
              obtain ⟨i, rfl⟩ : ∃ i : Nat, x = i := ⟨x.toNat, by omega⟩
              have hil : i < t.rs.length := by omega
              obtain ⟨y, hy⟩ : ∃ y, y = t.rs[i] := ⟨_, rfl⟩
              have hgd : t.rs.getD (i : Int).toNat (0, 0) = y := by simp [hil, hy]
              have hiy : t.rs[i]? = some y := by rw [List.getElem?_eq_getElem hil, hy]
              rw [hgd] at hver
              simp only at hver
              refine .draw mixed X16.sound (by kernel_rfl) (by kernel_rfl) rfl (by simp [hj', ← hx, hil, ← hy]; exact ⟨rfl, rfl⟩) (looseB_spec (by kernel_rfl)) ?_ -- region 12
              have hjm : ((j : Int).tmod 2) = ((j % 2 : Nat) : Int) := by rw [Int.tmod_eq_emod_of_nonneg (by omega)]; omega
              have hnext : ∀ (b : Bool), b = decide ((j + 1) % 2 = 1) → True := fun _ _ => trivial
              by_cases hodd : j % 2 = 1
              · have hj0 : ¬ j = 0 := by omega
                have hd1 : decide (j % 2 = 1) = true := by simpa using hodd
                have hd0 : decide (j = 0) = false := by simpa using hj0
                have hd2 : decide ((j + 1) % 2 = 1) = false := by simp; omega
                have hd3 : decide (j + 1 = 0) = false := by simp
                rw [hd1, hd0] at hver
                simp only [if_true, Bool.false_eq_true, if_false] at hver
                obtain ⟨q, iq, i0, rfl, hq, hiq, h0, hi0⟩ := hprev.resolve_left hj0
                have hwq : IntKind.i64.wrap (q : Int) = q := wrap64 (by omega) (by omega)
                have hjm1 : (((q : Int) + 1).tmod 2) = 1 := by
                  have : (((q + 1 : Nat) : Int).tmod 2) = 1 := by rw [hjm, hodd]; rfl
                  simpa using this
                have hql : q < ring.length := by omega
                have hq' : ring[q] = (iq : Int) := by rw [List.getElem?_eq_getElem hql] at hq; exact Option.some.inj hq
                have hiql := (List.getElem?_eq_some_iff.1 hiq).1
                have hiq' : t.rs[iq] = prev := (List.getElem?_eq_some_iff.1 hiq).2
                refine .step X16.sound (by kernel_rfl) (by simp [hjm1]; exact rfl) ?_ -- region 13
                refine .cond (t := true) (by simp) ?_
                refine .step X16.sound (by kernel_rfl) (by simp; exact rfl) ?_ -- region 14
                refine .draw mixed X16.sound (by kernel_rfl) (by kernel_rfl) rfl (by simp [h1, hwq, hql, hq', hiql, hiq']; exact ⟨rfl, rfl⟩) (looseB_spec (by kernel_rfl)) ?_ -- region 15
                refine .cond_split (by simp; exact rfl) (fun hc => ?_) (fun hc => ?_) -- t73
                · rw [if_pos (by simpa using hc)] at hver
                  rw [← hver]
                  exact .step X16.sound (by kernel_rfl) (by simp; exact rfl) (.ret ⟨.inr rfl, one (by simp)⟩) -- region 16
                · rw [if_neg (by simpa using hc)] at hver
                  refine .skip (.region X16.sound (by kernel_rfl) (by simp; exact rfl) ?_) -- region 9
                  refine ⟨_, _, View.norm _ [1, 2, 6, 7] [0] 1 (G1 + 1) (by simp), ?_, q + 1 + 1, first, y, IntKind.i64.wrap (sum - y.2), G1 + 1, by omega, rfl, by rw [hd2, hd3]; exact hver, .inr ⟨q + 1, i, i0, rfl, hjx, hiy, h0, hi0⟩, ?_⟩
                  · omega
                  · simp; simpa using hw1
              · have hd1 : decide (j % 2 = 1) = false := by simpa using hodd
                have hd2 : decide ((j + 1) % 2 = 1) = true := by simp; omega
                have hd3 : decide (j + 1 = 0) = false := by simp
                have hjm0 : j % 2 = 0 := by omega
                rw [hd1] at hver
                simp only [Bool.false_eq_true, if_false] at hver
                rcases j with _ | q
                · rw [if_neg (by simp)] at hver
                  simp only [decide_true, if_true] at hver
                  refine .step X16.sound (by kernel_rfl) (by simp; exact rfl) ?_ -- region 13
                  refine .cond (t := false) (by simp) ?_
                  refine .step X16.sound (by kernel_rfl) (by simp; exact rfl) ?_ -- region 17
                  refine .draw mixed X16.sound (by kernel_rfl) (by kernel_rfl) rfl (by simp; exact ⟨rfl, rfl⟩) (looseB_spec (by kernel_rfl)) ?_ -- region 18
                  refine .cond (t := false) (by simp) (.skip ?_)
                  refine .region X16.sound (by kernel_rfl) (by simp; exact rfl) ?_ -- region 9
                  refine ⟨_, _, View.norm _ [1, 2, 6, 7] [0] 1 (G1 + 1) (by simp), ?_, 0 + 1, y, y, IntKind.i64.wrap (sum + y.2), G1 + 1, by omega, rfl, by rw [hd2, hd3]; exact hver, .inr ⟨0, i, i, rfl, hjx, hiy, hjx, hiy⟩, ?_⟩
                  · omega
                  · simp; exact wrap64 (by omega) (by omega)
                · obtain ⟨q', iq, i0, hqq, hq, hiq, h0, hi0⟩ := hprev.resolve_left (by omega)
                  obtain rfl : q = q' := by omega
                  have hd0 : decide (q + 1 = 0) = false := by simp
                  rw [hd0] at hver
                  simp only [true_and, Bool.false_eq_true, if_false] at hver
                  have hwq : IntKind.i64.wrap (q : Int) = q := wrap64 (by omega) (by omega)
                  have hq1 : (0 : Int) < (q : Int) + 1 := by omega
                  have hjm1 : (((q : Int) + 1).tmod 2) = 0 := by
                    have : (((q + 1 : Nat) : Int).tmod 2) = 0 := by rw [hjm, hjm0]; rfl
                    simpa using this
                  have hql : q < ring.length := by omega
                  have hq' : ring[q] = (iq : Int) := by rw [List.getElem?_eq_getElem hql] at hq; exact Option.some.inj hq
                  have hiql := (List.getElem?_eq_some_iff.1 hiq).1
                  have hiq' : t.rs[iq] = prev := (List.getElem?_eq_some_iff.1 hiq).2
                  refine .step X16.sound (by kernel_rfl) (by simp [hjm1]; exact rfl) ?_ -- region 13
                  refine .cond (t := false) (by simp) ?_
                  refine .step X16.sound (by kernel_rfl) (by simp; exact rfl) ?_ -- region 17
                  refine .draw mixed X16.sound (by kernel_rfl) (by kernel_rfl) rfl (by simp [hq1, h2, hwq, hql, hq', hiql, hiq']; exact ⟨rfl, rfl⟩) (looseB_spec (by kernel_rfl)) ?_ -- region 18
                  refine .cond_split (by simp; exact rfl) (fun hc => ?_) (fun hc => ?_) -- t100
                  · rw [if_pos (by simpa using hc)] at hver
                    rw [← hver]
                    exact .step X16.sound (by kernel_rfl) (by simp; exact rfl) (.ret ⟨.inr rfl, one (by simp)⟩) -- region 19
                  · rw [if_neg (by simpa using hc)] at hver
                    refine .skip (.region X16.sound (by kernel_rfl) (by simp; exact rfl) ?_) -- region 9
                    refine ⟨_, _, View.norm _ [1, 2, 6, 7] [0] 1 (G1 + 1) (by simp), ?_, q + 1 + 1, first, y, IntKind.i64.wrap (sum + y.2), G1 + 1, by omega, rfl, by rw [hd2, hd3]; exact hver, .inr ⟨q + 1, i, i0, rfl, hjx, hiy, h0, hi0⟩, ?_⟩
                    · omega
                    · simp; simpa using hw1
            · rw [if_neg hr] at hver
              rw [← hver]
              refine .draw mixed X16.sound (by kernel_rfl) (by kernel_rfl) rfl (by simp [hj', ← hx, hwl, neg_and hr]; exact ⟨rfl, rfl⟩) (looseB_spec (by kernel_rfl)) ?_ -- region 10
              refine .cond (t := true) (by simp) ?_
              exact .step X16.sound (by kernel_rfl) (by simp; exact rfl) (.ret ⟨.inr rfl, one (by simp)⟩) -- region 11
          · have : ring.length = j := by simp at hc; omega
            obtain ⟨q, iq, i0, hqq, hq, hiq, h0, hi0⟩ := hprev.resolve_left (by omega)
            rw [← this, List.drop_length, rVerL] at hver
            rw [← hver]
            have hql : q < ring.length := by omega
            have hq' : ring[q] = (iq : Int) := by rw [List.getElem?_eq_getElem hql] at hq; exact Option.some.inj hq
            have h0l : 0 < ring.length := by omega
            have h0' : ring[0] = (i0 : Int) := by rw [List.getElem?_eq_getElem h0l] at h0; exact Option.some.inj h0
            have hiql := (List.getElem?_eq_some_iff.1 hiq).1
            have hiq' : t.rs[iq] = prev := (List.getElem?_eq_some_iff.1 hiq).2
            have hi0l := (List.getElem?_eq_some_iff.1 hi0).1
            have hi0' : t.rs[i0] = first := (List.getElem?_eq_some_iff.1 hi0).2
            have hwr : IntKind.i64.wrap ((ring.length : Int) - 1) = q := (wrap64 (by omega) (by omega)).trans (by omega)
            refine .exit (.seq ?_)
            refine .draw mixed X16.sound (by kernel_rfl) (by kernel_rfl) rfl (by simp [h2, h0l, h0', hi0l, hi0', hwr, hql, hq', hiql, hiq']; exact ⟨rfl, rfl⟩) (looseB_spec (by kernel_rfl)) ?_ -- region 20
            refine .cond_split (by simp; exact rfl) (fun hc => ?_) (fun hc => ?_) -- t126
            · rw [if_pos (by simpa using hc)]
              exact .step X16.sound (by kernel_rfl) (by simp; exact rfl) (.ret ⟨.inr rfl, one (by simp)⟩) -- region 21
            · rw [if_neg (by simpa using hc)]
              refine .skip (.seq (.step X16.sound (by kernel_rfl) (by simp; exact rfl) ?_)) -- region 22
              refine .cond_split (by simp; exact rfl) (fun hc => ?_) (fun hc => ?_) -- t128
              · rw [if_pos (by simpa using hc)]
                exact .step X16.sound (by kernel_rfl) (by simp; exact rfl) (.ret ⟨.inr rfl, one (by simp)⟩) -- region 23
              · rw [if_neg (by simpa using hc)]
                refine .skip ?_
                exact .step X16.sound (by kernel_rfl) (by simp; exact rfl) (.ret ⟨.inr rfl, one (by simp)⟩) -- region 24
        · have hv : rVerifyT t ring = 4 := by
            simp only [rVerifyT, hc', ne_eq, not_true, if_false]
            rw [if_neg (fun h => r2 h.2)]
          rw [hv]
          have r2' : ((ring.length : Int).tmod 2) = 1 := by rw [ht2]; omega
          refine .step X16.sound (by kernel_rfl) (by simp [r1.1, r1.2, r2']; exact rfl) ?_ -- region 4
          refine .cond (t := true) (by simp) ?_
          exact .step X16.sound (by kernel_rfl) (by simp; exact rfl) (.ret ⟨.inr rfl, one (by simp)⟩) -- region 5
      · have hv : rVerifyT t ring = 4 := by
          simp only [rVerifyT, hc', ne_eq, not_true, if_false]
          rw [if_neg (fun h => r1 (by omega))]
        rw [hv]
        refine .step X16.sound (by kernel_rfl) (by simp [neg_and r1]; exact rfl) ?_ -- region 4
        refine .cond (t := true) (by simp) ?_
        exact .step X16.sound (by kernel_rfl) (by simp; exact rfl) (.ret ⟨.inr rfl, one (by simp)⟩) -- region 5
  · exact (rd_fail h).elim

end Go.Proofs.Ytlidakhdcnkabaa

namespace Go.Proofs.Ytlidakhdcnkabaa
open Go.AI
set_option linter.unusedSimpArgs false

def rSuspL (t : Tide) (n : Nat) : List Int := ((List.range n).filter fun i => rFits (dropAt t i)).map fun i : Nat => (i : Int)

theorem rSuspL_succ (t : Tide) (n : Nat) : rSuspL t (n + 1) = if rFits (dropAt t n) = true then rSuspL t n ++ [(n : Int)] else rSuspL t n := by
  simp only [rSuspL, List.range_succ, List.filter_append, List.filter_cons, List.filter_nil]
  split <;> simp

theorem rSuspL_len (t : Tide) (n : Nat) : (rSuspL t n).length ≤ n := by
  simp only [rSuspL, List.length_map]
  exact Nat.le_trans (List.length_filter_le _ _) (by simp)

def rSuspT (t : Tide) : List Int × Int := if checkT t ≠ 0 then ([], checkT t) else (rSuspL t t.rs.length, 0)

def RSuspectsS : FSpec := fun xs nx G => match xs with
  | [r] => ofOpt (asTide r) fun t => valR nx G (.tup [.il (ints (rSuspT t).1) (decide ((rSuspT t).2 ≠ 0)), .int .i64 (rSuspT t).2])
  | _ => .fail

theorem okEs_pairs (l : List (Int × Int)) : okEs 2 (pairs l) = true := by simp [okEs, AVal.sc]

theorem dropAt_ok {t : Tide} (h : rOk t) (i : Nat) : rOk (dropAt t i) := by
  refine ⟨h.1, fun x hx => h.2 x ?_⟩
  simp only [dropAt, List.mem_append] at hx
  exact hx.elim List.mem_of_mem_take List.mem_of_mem_drop

theorem RSuspects_sound : FSound Try.prog 24 RSuspectsS := by
  refine fsound_pure Try.func24 (by kernel_rfl) rfl _ fun xs nx G d hp h => ?_
  unfold RSuspectsS at h
  split at h
  · rename_i r
    replace h := rd_opt h; obtain ⟨t, ht, h⟩ := h
    obtain ⟨ex, rfl⟩ := asTide_some ht
    have hd := rd_val h
    subst hd
    refine ⟨by simp [Try.f24], all1 (free_tide t ex), ?_⟩
    refine .step X16.sound (by kernel_rfl) (by simp; exact rfl) ?_ -- region 0
    refine .step X16.sound (by kernel_rfl) (by simp; exact rfl) ?_ -- region 1
    refine .seq (.step X16.sound (by kernel_rfl) (by simp; exact rfl) ?_) -- region 2
    refine .cond_split (by simp; exact rfl) (fun hc => ?_) (fun hc => ?_) -- t11
    · have hc' : checkT t ≠ 0 := by simpa using hc
      have : rSuspT t = ([], checkT t) := by simp [rSuspT, hc']
      rw [this]
      refine .step X16.sound (by kernel_rfl) (by simp; exact rfl) ?_ -- region 3
      exact .ret ⟨.inr rfl, by simp only; rw [decide_eq_true hc']; exact ends_free (l := [.tmp 2, .tmp 3]) rfl (rs := [.il [] true, .int .i64 (checkT t)]) (by simp) (fun k => by simp) (by simp)⟩
    · have hc' : checkT t = 0 := by simpa using hc
      obtain ⟨k1, k2, k3, _⟩ := checkT_zero hc'
      have hok := check_ok hc'
      have : rSuspT t = (rSuspL t t.rs.length, 0) := by simp [rSuspT, hc']
      rw [this]
      have ok0 := okEs_pairs t.rs
      refine .skip ?_
      refine .step X16.sound (by kernel_rfl) (by simp; exact rfl) ?_ -- region 4
      refine .view (View.virt _ 5 1 1 true (by simp)) ?_
      refine .seq (.step X16.sound (by kernel_rfl) (by simp; exact rfl) (.block ?_)) -- region 5
      refine .loopV (fun k st => ∃ (j g G : Nat), j ≤ t.rs.length ∧ k = t.rs.length - j ∧ st = ⟨[(1, .ptr 0 0 0 0), (5, .sl 1 g 0 (rSuspL t j).length), (6, .int .i64 j)], [(0, some (.row 3 [tideC t ex] 0 true)), (1, some (.row 1 (ints (rSuspL t j)) g true))], 2, G⟩) ?_ (View.norm _ [1, 5, 6] [0, 1] 2 2 (by simp)) ⟨0, 1, 2, by omega, rfl, by simp [rSuspL]⟩
      rintro k st ⟨j, g, G1, hj, rfl, rfl⟩
      refine .seq (.step X16.sound (by kernel_rfl) (by simp; exact rfl) ?_) -- region 6
      refine .cond_split (by simp; exact rfl) (fun hc => ?_) (fun hc => ?_) -- t17
      · have hj' : j < t.rs.length := by simpa using hc
        have hw1 : IntKind.i64.wrap ((j : Int) + 1) = (j : Int) + 1 := wrap64 (by omega) (by omega)
        have hl := rSuspL_len t j
        have hsucc := rSuspL_succ t j
        have hroom : ((rSuspL t j).length + 1) * 8 ≤ room := by simp [room]; omega
        have g1 : (j : Int) ≤ t.rs.length := by omega
        have g2 : (j : Int) + 1 ≤ t.rs.length := by omega
        have g3 : (0 : Int) ≤ (j : Int) + 1 := by omega
        have g4 : ((j : Int) + 1).toNat = j + 1 := by omega
        have g5 : ((t.rs.length : Int) - ((j : Int) + 1)).toNat = t.rs.length - (j + 1) := by omega
        have m1 : min j t.rs.length = j := by omega
        have r1 : j * 16 ≤ room := by simp [room]; omega
        have r2 : (j + (t.rs.length - (j + 1))) * 16 ≤ room := by simp [room]; omega
        have hB : List.take (t.rs.length - (j + 1)) (List.drop (j + 1) (pairs t.rs)) = List.drop (j + 1) (pairs t.rs) := List.take_of_length_le (by simp)
        have ok1 : okEs 2 (List.take j (pairs t.rs)) = true := by
          have := okEs_pairs (t.rs.take j)
          rw [pairs, List.map_take] at this; exact this
        have ok2 : okEs 2 (List.drop (j + 1) (pairs t.rs)) = true := by
          have := okEs_pairs (t.rs.drop (j + 1))
          rw [pairs, List.map_drop] at this; exact this
        refine .skip (.seq (.block ?_))
        refine .draw mixed X16.sound (by kernel_rfl) (by kernel_rfl) rfl (by simp [hw1, g1, g2, g3, g4, g5, ok0, hB, ok1, ok2, elems, appR, m1, r1, r2]; exact ⟨rfl, rfl⟩) (looseB_spec (by kernel_rfl)) ?_ -- region 8
        have hdl : (dropAt t j).rs.length = j + (t.rs.length - (j + 1)) := by simp [dropAt]; omega
        have hdr : List.take j (pairs t.rs) ++ List.drop (j + 1) (pairs t.rs) = pairs (dropAt t j).rs := by rw [pairs, ← List.map_take, ← List.map_drop, ← List.map_append]; rfl
        refine .norm (s1 := ⟨[(1, .ptr 0 0 0 0), (5, .sl 1 g 0 (rSuspL t j).length), (6, .int .i64 j), (7, .ptr 3 (G1 + 3) 0 0)], [(0, some (.row 3 [tideC t ex] 0 true)), (1, some (.row 1 (ints (rSuspL t j)) g true)), (2, some (.row 2 (pairs (dropAt t j).rs) (G1 + 2) true)), (3, some (.row 3 [[.int .i64 t.sun, .int .i64 t.moon, .sl 2 (G1 + 2) 0 (dropAt t j).rs.length]] (G1 + 3) true))], 4, G1 + 4⟩)
          [1, 5, 6, 7] [0, 1, 2, 3] 4 (G1 + 4) (by simp) (by rw [← hdr, hdl]; simp [List.take_take, Nat.min_self, m1]) ?_
        have hfit : ∀ nx G, rfitsS [.agg [.int .i64 t.sun, .int .i64 t.moon, .il (pairs (dropAt t j).rs) false]] nx G = valR nx G (.bool (rFits (dropAt t j))) := fun nx G => rfits_at (dropAt t j) false (dropAt_ok hok j) nx G
        have htk : List.take (dropAt t j).rs.length (pairs (dropAt t j).rs) = pairs (dropAt t j).rs := List.take_of_length_le (by simp)
        refine .step X16.sound (by kernel_rfl) (by simp [htk, hfit]; exact rfl) ?_ -- region 9
        refine .cond_split (by simp; exact rfl) (fun hc => ?_) (fun hc => ?_) -- t38
        · rw [if_pos hc] at hsucc
          refine .region X16.sound (by kernel_rfl) (by simp [elems, appR, hroom]; exact rfl) ?_ -- region 10
          refine .region X16.sound (by kernel_rfl) (by simp [hw1]; exact rfl) ?_ -- region 7
          refine ⟨_, _, View.norm _ [1, 5, 6] [0, 1] 2 (G1 + 6) (by simp), ?_, j + 1, G1 + 5, G1 + 6, by omega, rfl, ?_⟩
          · omega
          · rw [hsucc]
            simp
            rw [List.take_of_length_le (by simp)]
        · rw [if_neg (by rw [hc]; simp)] at hsucc
          refine .skip (.region X16.sound (by kernel_rfl) (by simp [hw1]; exact rfl) ?_) -- region 7
          refine ⟨_, _, View.norm _ [1, 5, 6] [0, 1] 2 (G1 + 4) (by simp), ?_, j + 1, g, G1 + 4, by omega, rfl, ?_⟩
          · omega
          · rw [hsucc]
            simp
      · have : j = t.rs.length := by simp at hc; omega
        subst this
        refine .exit (.step X16.sound (by kernel_rfl) (by simp; exact rfl) ?_) -- region 11
        refine .view (View.fzT _ 2 (by simp; exact ⟨rfl, rfl⟩)) ?_
        exact .ret ⟨.inr rfl, ends_free (l := [.tmp 2, .tmp 3]) rfl (rs := [.il (ints (rSuspL t t.rs.length)) false, .int .i64 0]) (by simp; exact List.take_of_length_le (by simp)) (fun k => by simp) (all2 (free_ints _ _) (.int _ _))⟩
  · exact (rd_fail h).elim

end Go.Proofs.Ytlidakhdcnkabaa
