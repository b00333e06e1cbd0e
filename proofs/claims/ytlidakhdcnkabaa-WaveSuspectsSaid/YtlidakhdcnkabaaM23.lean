/- clashes, walked. What is accepted clashes; what clashes does not fit. Plain law. The law WaveProved. No condition. -/
import Derived.Test.YtlidakhdcnkabaaM20
import Derived.Test.YtlidakhdcnkabaaM22
import Derived.Test.YtlidakhdcnkabaaM21
namespace Go.Proofs.Ytlidakhdcnkabaa
open Go.AI
set_option linter.unusedSimpArgs false

/-- Along a ring: an odd place? the reading before, the sum. -/
def claL (t : Tide) : Bool → Int → Int → List Int → Bool
  | _, _, sum, [] => decide (sum ≠ 0)
  | odd, prev, sum, i :: l =>
    if (0 ≤ i ∧ i < t.rs.length) ∧ 0 ≤ prev ∧ prev < t.rs.length then
      if odd = true then (if (t.rs.getD i.toNat (0, 0)).1.tmod t.sun ≠ (t.rs.getD prev.toNat (0, 0)).1.tmod t.sun then false else claL t false i (IntKind.i64.wrap (sum - (t.rs.getD i.toNat (0, 0)).2)) l)
      else (if (t.rs.getD i.toNat (0, 0)).1.tmod t.moon ≠ (t.rs.getD prev.toNat (0, 0)).1.tmod t.moon then false else claL t true i (IntKind.i64.wrap (sum + (t.rs.getD i.toNat (0, 0)).2)) l)
    else false

def clashesT (t : Tide) (ring : List Int) : Bool := if ring.length < 2 ∨ ring.length % 2 = 1 then false else claL t false (ring.getD (ring.length - 1) 0) 0 ring

def clashesS : FSpec := fun xs nx G => match xs with
  | [r, .il es _] => ofOpt (asTide r) fun t => ofOpt (asInts es) fun l => if (t.sun ≠ 0 ∧ t.moon ≠ 0) ∧ l.length ≤ 1000 then valR nx G (.bool (clashesT t l)) else .fail
  | _ => .fail

theorem clashes_at (t : Tide) (ex e1 : Bool) (l : List Int) (h : (t.sun ≠ 0 ∧ t.moon ≠ 0) ∧ l.length ≤ 1000) (nx G : Nat) : clashesS [tideA t ex, .il (ints l) e1] nx G = valR nx G (.bool (clashesT t l)) := by
  simp only [clashesS, asTide_tide, ofOpt, asInts_ints]
  rw [if_pos h]

theorem clashes_sound : FSound Try.prog 30 clashesS := by
  refine fsound_pure Try.func30 (by kernel_rfl) rfl _ fun xs nx G d hp h => ?_
  unfold clashesS at h
  split at h
  · rename_i r es ex1
    replace h := rd_opt h; obtain ⟨t, ht, h⟩ := h
    replace h := rd_opt h; obtain ⟨ring, hl, h⟩ := h
    obtain ⟨ex, rfl⟩ := asTide_some ht
    have := asInts_some hl; subst this
    split at h
    case isFalse => exact (rd_fail h).elim
    rename_i hcon
    obtain ⟨⟨hz1, hz2⟩, hlen⟩ := hcon
    have hd := rd_val h
    subst hd
    refine ⟨by simp [Try.f30], all2 (free_tide t ex) (free_ints _ _), ?_⟩
    have one : ∀ {s : St} {v : Bool}, tget s.tmps 4 = .bool v → Ends0 Try.prog Try.f30 s nx G ⟨.bool v, [], nx, G⟩ := fun {s v} hv => ends_free (l := [.tmp 4]) rfl (rs := [.bool v]) (by simp [hv]) (fun k => by simp) (by simp)
    have htm : ∀ n : Nat, (n : Int).tmod 2 = ((n % 2 : Nat) : Int) := fun n => by rw [Int.tmod_eq_emod_of_nonneg (by omega)]; omega
    refine .step X0.sound (by kernel_rfl) (by simp; exact rfl) ?_ -- region 0
    refine .seq ?_
    by_cases hl2 : ring.length < 2 ∨ ring.length % 2 = 1
    · have hv : clashesT t ring = false := by unfold clashesT; rw [if_pos hl2]
      rw [hv]
      by_cases h2 : (ring.length : Int) < 2
      · refine .step X0.sound (by kernel_rfl) (by simp [h2]; exact rfl) ?_ -- region 1
        refine .cond (t := true) (by simp) ?_
        refine .step X0.sound (by kernel_rfl) (by simp; exact rfl) ?_ -- region 2
        exact .ret ⟨.inr rfl, one (by simp)⟩
      · have h3 : ring.length % 2 = 1 := by omega
        have h4 : (ring.length : Int).tmod 2 = 1 := by rw [htm, h3]; rfl
        refine .step X0.sound (by kernel_rfl) (by simp [h2, h4]; exact rfl) ?_ -- region 1
        refine .cond (t := true) (by simp) ?_
        refine .step X0.sound (by kernel_rfl) (by simp; exact rfl) ?_ -- region 2
        exact .ret ⟨.inr rfl, one (by simp)⟩
    · have hv : clashesT t ring = claL t false (ring.getD (ring.length - 1) 0) 0 ring := by unfold clashesT; rw [if_neg hl2]
      rw [hv]
      have h2 : ¬ (ring.length : Int) < 2 := by omega
      have h3 : ring.length % 2 = 0 := by omega
      have h4 : (ring.length : Int).tmod 2 = 0 := by rw [htm, h3]; rfl
      refine .step X0.sound (by kernel_rfl) (by simp [h2, h4]; exact rfl) ?_ -- region 1
      refine .cond (t := false) (by simp) (.skip ?_)
      refine .step X0.sound (by kernel_rfl) (by simp; exact rfl) ?_ -- region 3
      refine .seq (.step X0.sound (by kernel_rfl) (by simp; exact rfl) (.block ?_)) -- region 4
      have hpre : ∀ j, j < ring.length → (j + ring.length - 1) % ring.length < ring.length := fun j _ => Nat.mod_lt _ (by omega)
      refine .loopV (fun k st => ∃ (j : Nat) (sum : Int) (G : Nat), j ≤ ring.length ∧ k = ring.length - j ∧ claL t (decide (j % 2 = 1)) (ring.getD ((j + ring.length - 1) % ring.length) 0) sum (ring.drop j) = claL t false (ring.getD (ring.length - 1) 0) 0 ring ∧
        st = ⟨[(1, .il (ints ring) ex1), (2, .ptr 0 0 0 0), (5, .int .i64 sum), (20, .il (ints ring) ex1), (21, .int .i64 ring.length), (22, .int .i64 j)], [(0, some (.row 3 [tideC t ex] 0 true))], 1, G⟩) ?_ (View.norm _ [1, 2, 5, 20, 21, 22] [0] 1 1 (by simp)) ⟨0, 0, 1, by omega, rfl, by simp [Nat.mod_eq_of_lt (show ring.length - 1 < ring.length by omega)], by simp⟩
      rintro k st ⟨j, sum, G1, hj, hk, hcla, rfl⟩
      refine .step X0.sound (by kernel_rfl) (by simp; exact rfl) ?_ -- region 5
      refine .seq ?_
      refine .cond_split (by simp; exact rfl) (fun hc => ?_) (fun hc => ?_) -- t23
      · have hj' : j < ring.length := by simpa using hc
        have hdrop : ring.drop j = ring[j] :: ring.drop (j + 1) := List.drop_eq_getElem_cons hj'
        obtain ⟨x, hx⟩ : ∃ x, ring[j] = x := ⟨_, rfl⟩
        obtain ⟨e, he⟩ : ∃ e, e = (j + ring.length - 1) % ring.length := ⟨_, rfl⟩
        have hel : e < ring.length := by rw [he]; exact hpre j hj'
        obtain ⟨b, hb⟩ : ∃ b, ring[e]? = some b := ⟨_, List.getElem?_eq_getElem hel⟩
        have hbe : ring[e] = b := by rw [List.getElem?_eq_getElem hel] at hb; simpa using hb
        have hbd : ring.getD e 0 = b := by rw [List.getD_eq_getElem?_getD, hb]; rfl
        rw [hdrop, hx, ← he, hbd] at hcla
        rw [claL] at hcla
        have w1 : IntKind.i64.wrap ((j : Int) + ring.length) = (j : Int) + ring.length := wrap64 (by omega) (by omega)
        have w2 : IntKind.i64.wrap ((j : Int) + ring.length - 1) = (j : Int) + ring.length - 1 := wrap64 (by omega) (by omega)
        have w3 : ((j : Int) + ring.length - 1).tmod ring.length = (e : Int) := by
          rw [Int.tmod_eq_emod_of_nonneg (by omega), he]
          have : (j : Int) + ring.length - 1 = ((j + ring.length - 1 : Nat) : Int) := by omega
          rw [this]; rfl
        have w4 : IntKind.i64.wrap ((j : Int) + 1) = (j : Int) + 1 := wrap64 (by omega) (by omega)
        have w5 : (ring.length : Int) ≠ 0 := by omega
        have w6 : ring ≠ [] := by intro q; rw [q] at hj'; simp at hj'
        have okr : okEs 1 (ints ring) = true := by simp [okEs, AVal.sc]
        have okp : okEs 2 (pairs t.rs) = true := by simp [okEs, AVal.sc]
        refine .skip (.seq (.block ?_))
        refine .step X0.sound (by kernel_rfl) (by simp [hj', hx, okr]; exact rfl) ?_ -- region 6
        refine .step X0.sound (by kernel_rfl) (by simp [w1, w2, w3, w5, w6, hel, hbe, okr]; exact rfl) ?_ -- region 7
        refine .seq ?_
        by_cases hin : (0 ≤ x ∧ x < t.rs.length) ∧ 0 ≤ b ∧ b < t.rs.length
        · rw [if_pos hin] at hcla
          obtain ⟨⟨g1, g2⟩, g3, g4⟩ := hin
          have n1 : ¬ x < 0 := by omega
          have n2 : ¬ (t.rs.length : Int) ≤ x := by omega
          have n3 : ¬ b < 0 := by omega
          have n4 : ¬ (t.rs.length : Int) ≤ b := by omega
          obtain ⟨xr, hxr⟩ : ∃ xr, t.rs[x.toNat]? = some xr := ⟨_, List.getElem?_eq_getElem (by omega)⟩
          obtain ⟨pr, hpr⟩ : ∃ pr, t.rs[b.toNat]? = some pr := ⟨_, List.getElem?_eq_getElem (by omega)⟩
          have hxe : t.rs[x.toNat]'(by omega) = xr := by rw [List.getElem?_eq_getElem (by omega)] at hxr; simpa using hxr
          have hpe : t.rs[b.toNat]'(by omega) = pr := by rw [List.getElem?_eq_getElem (by omega)] at hpr; simpa using hpr
          have hxg : t.rs.getD x.toNat (0, 0) = xr := by rw [List.getD_eq_getElem?_getD, hxr]; rfl
          have hpg : t.rs.getD b.toNat (0, 0) = pr := by rw [List.getD_eq_getElem?_getD, hpr]; rfl
          rw [hxg, hpg] at hcla
          have hnext : ring.getD ((j + 1 + ring.length - 1) % ring.length) 0 = x := by
            have : (j + 1 + ring.length - 1) % ring.length = j := by
              rw [show j + 1 + ring.length - 1 = j + ring.length by omega, Nat.add_mod_right, Nat.mod_eq_of_lt hj']
            rw [this, List.getD_eq_getElem?_getD, List.getElem?_eq_getElem hj', hx]; rfl
          refine .step X0.sound (by kernel_rfl) (by simp [n1, n2, n3, n4]; exact rfl) ?_ -- region 8
          refine .cond (t := false) (by simp) (.skip ?_)
          refine .draw mixed X0.sound (by kernel_rfl) (by kernel_rfl) rfl (by simp [g1, g2, g3, g4, hxe, hpe, okp]; exact ⟨rfl, rfl⟩) (looseB_spec (by kernel_rfl)) ?_ -- region 10
          by_cases hodd : j % 2 = 1
          · have hm : (j : Int).tmod 2 = 1 := by rw [htm, hodd]; rfl
            have hs : (j + 1) % 2 = 0 := by omega
            rw [decide_eq_true hodd] at hcla
            simp only [if_true] at hcla
            refine .step X0.sound (by kernel_rfl) (by simp [hm]; exact rfl) ?_ -- region 11
            refine .cond (t := false) (by simp) ?_
            refine .step X0.sound (by kernel_rfl) (by simp; exact rfl) ?_ -- region 15
            by_cases hne : xr.1.tmod t.sun = pr.1.tmod t.sun
            · rw [if_neg (fun q => q hne)] at hcla
              refine .draw mixed X0.sound (by kernel_rfl) (by kernel_rfl) rfl (by simp [hz1, hne]; exact ⟨rfl, rfl⟩) (looseB_spec (by kernel_rfl)) ?_ -- region 16
              refine .cond (t := false) (by simp) (.skip ?_)
              refine .region X0.sound (by kernel_rfl) (by simp [w4]; exact rfl) ?_ -- region 18
              refine ⟨_, _, View.norm _ [1, 2, 5, 20, 21, 22] [0] 1 (G1 + 2) (by simp), ?_, j + 1, IntKind.i64.wrap (sum - xr.2), G1 + 2, hj', rfl, ?_, by simp⟩
              · omega
              · rw [hnext, hs]; exact hcla
            · rw [if_pos hne] at hcla
              have hb : (xr.1.tmod t.sun == pr.1.tmod t.sun) = false := by simpa using hne
              rw [← hcla]
              refine .draw mixed X0.sound (by kernel_rfl) (by kernel_rfl) rfl (by simp [hz1, hb]; exact ⟨rfl, rfl⟩) (looseB_spec (by kernel_rfl)) ?_ -- region 16
              refine .cond (t := true) (by simp [hne]) ?_
              refine .step X0.sound (by kernel_rfl) (by simp; exact rfl) ?_ -- region 17
              exact .ret ⟨.inr rfl, one (by simp)⟩
          · have hm0 : j % 2 = 0 := by omega
            have hm : (j : Int).tmod 2 = 0 := by rw [htm, hm0]; rfl
            have hs : (j + 1) % 2 = 1 := by omega
            rw [decide_eq_false hodd] at hcla
            simp only [Bool.false_eq_true, if_false] at hcla
            refine .step X0.sound (by kernel_rfl) (by simp [hm]; exact rfl) ?_ -- region 11
            refine .cond (t := true) (by simp) ?_
            refine .step X0.sound (by kernel_rfl) (by simp; exact rfl) ?_ -- region 12
            by_cases hne : xr.1.tmod t.moon = pr.1.tmod t.moon
            · rw [if_neg (fun q => q hne)] at hcla
              refine .draw mixed X0.sound (by kernel_rfl) (by kernel_rfl) rfl (by simp [hz2, hne]; exact ⟨rfl, rfl⟩) (looseB_spec (by kernel_rfl)) ?_ -- region 13
              refine .cond (t := false) (by simp) (.skip ?_)
              refine .region X0.sound (by kernel_rfl) (by simp [w4]; exact rfl) ?_ -- region 18
              refine ⟨_, _, View.norm _ [1, 2, 5, 20, 21, 22] [0] 1 (G1 + 2) (by simp), ?_, j + 1, IntKind.i64.wrap (sum + xr.2), G1 + 2, hj', rfl, ?_, by simp⟩
              · omega
              · rw [hnext, hs]; exact hcla
            · rw [if_pos hne] at hcla
              have hb : (xr.1.tmod t.moon == pr.1.tmod t.moon) = false := by simpa using hne
              rw [← hcla]
              refine .draw mixed X0.sound (by kernel_rfl) (by kernel_rfl) rfl (by simp [hz2, hb]; exact ⟨rfl, rfl⟩) (looseB_spec (by kernel_rfl)) ?_ -- region 13
              refine .cond (t := true) (by simp [hne]) ?_
              refine .step X0.sound (by kernel_rfl) (by simp; exact rfl) ?_ -- region 14
              exact .ret ⟨.inr rfl, one (by simp)⟩
        · rw [if_neg hin] at hcla
          rw [← hcla]
          by_cases n1 : x < 0
          · refine .step X0.sound (by kernel_rfl) (by simp [n1]; exact rfl) ?_ -- region 8
            refine .cond (t := true) (by simp) ?_
            refine .step X0.sound (by kernel_rfl) (by simp; exact rfl) ?_ -- region 9
            exact .ret ⟨.inr rfl, one (by simp)⟩
          · by_cases n2 : (t.rs.length : Int) ≤ x
            · refine .step X0.sound (by kernel_rfl) (by simp [n1, n2]; exact rfl) ?_ -- region 8
              refine .cond (t := true) (by simp) ?_
              refine .step X0.sound (by kernel_rfl) (by simp; exact rfl) ?_ -- region 9
              exact .ret ⟨.inr rfl, one (by simp)⟩
            · by_cases n3 : b < 0
              · refine .step X0.sound (by kernel_rfl) (by simp [n1, n2, n3]; exact rfl) ?_ -- region 8
                refine .cond (t := true) (by simp) ?_
                refine .step X0.sound (by kernel_rfl) (by simp; exact rfl) ?_ -- region 9
                exact .ret ⟨.inr rfl, one (by simp)⟩
              · have n4 : (t.rs.length : Int) ≤ b := by omega
                refine .step X0.sound (by kernel_rfl) (by simp [n1, n2, n3, n4]; exact rfl) ?_ -- region 8
                refine .cond (t := true) (by simp) ?_
                refine .step X0.sound (by kernel_rfl) (by simp; exact rfl) ?_ -- region 9
                exact .ret ⟨.inr rfl, one (by simp)⟩
      · have hj' : ring.length ≤ j := by
          have : ¬ j < ring.length := by simpa using hc
          omega
        rw [List.drop_eq_nil_of_le hj', claL] at hcla
        rw [← hcla]
        refine .exit ?_ -- 0
        refine .step X0.sound (by kernel_rfl) (by simp; exact rfl) ?_ -- region 19
        exact .ret ⟨.inr rfl, one (by simp; rfl)⟩
  · exact (rd_fail h).elim

end Go.Proofs.Ytlidakhdcnkabaa

namespace Go.Proofs.Ytlidakhdcnkabaa
open Go.AI

def inRs (t : Tide) (i : Int) : Prop := 0 ≤ i ∧ i < t.rs.length
instance (t : Tide) (i : Int) : Decidable (inRs t i) := by unfold inRs; infer_instance
abbrev rd (t : Tide) (i : Int) : Int × Int := t.rs.getD i.toNat (0, 0)

theorem claL_in (t : Tide) : ∀ (l : List Int) (odd : Bool) (p sum : Int), claL t odd p sum l = true → ∀ i ∈ l, inRs t i
  | [], _, _, _, _ => by simp
  | i :: l, odd, p, sum, h => by
    rw [claL] at h
    split at h
    case isFalse => cases h
    rename_i hr
    intro j hj
    rcases List.mem_cons.1 hj with rfl | hj
    · exact hr.1
    · cases odd with
      | true =>
        simp only [if_true] at h
        split at h
        · cases h
        · exact claL_in t l _ _ _ h j hj
      | false =>
        simp only [Bool.false_eq_true, if_false] at h
        split at h
        · cases h
        · exact claL_in t l _ _ _ h j hj

theorem ver_cla (t : Tide) (first : Int × Int) : ∀ (l : List Int) (odd : Bool) (p sum : Int), inRs t p →
    (rVerL t false odd first (rd t p) sum l = 0 ↔ claL t odd p sum l = true ∧ first.1.tmod t.moon = (rd t ((p :: l).getD l.length 0)).1.tmod t.moon)
  | [], odd, p, sum, _ => by
    show (if first.1.tmod t.moon ≠ (rd t p).1.tmod t.moon then 5 else if sum = 0 then 12 else 0) = (0 : Int) ↔ decide (sum ≠ 0) = true ∧ first.1.tmod t.moon = (rd t p).1.tmod t.moon
    generalize (rd t p).1.tmod t.moon = m
    by_cases h : first.1.tmod t.moon = m
    · by_cases h0 : sum = 0
      · simp [h, h0]
      · simp [h, h0]
    · simp [h]
  | i :: l, odd, p, sum, hp => by
    have hlast : (p :: i :: l).getD (i :: l).length 0 = (i :: l).getD l.length 0 := by simp
    rw [hlast]
    have hp' := hp
    unfold inRs at hp'
    rw [rVerL, claL]
    by_cases hi : inRs t i
    · have hi' := hi
      unfold inRs at hi'
      have c1 : 0 ≤ i ∧ i ≤ (t.rs.length : Int) - 1 := ⟨hi'.1, by omega⟩
      have c2 : (0 ≤ i ∧ i < (t.rs.length : Int)) ∧ 0 ≤ p ∧ p < (t.rs.length : Int) := ⟨hi', hp'⟩
      rw [if_pos c1, if_pos c2]
      simp only [Bool.false_eq_true, if_false, true_and]
      cases odd with
      | true =>
        simp only [if_true]
        by_cases he : (t.rs.getD i.toNat (0, 0)).1.tmod t.sun = (t.rs.getD p.toNat (0, 0)).1.tmod t.sun
        · have n1 : ¬ (t.rs.getD i.toNat (0, 0)).1.tmod t.sun ≠ (t.rs.getD p.toNat (0, 0)).1.tmod t.sun := fun q => q he
          rw [if_neg n1, if_neg n1]
          exact ver_cla t first l false i _ hi
        · have n1 : (t.rs.getD i.toNat (0, 0)).1.tmod t.sun ≠ (t.rs.getD p.toNat (0, 0)).1.tmod t.sun := he
          rw [if_pos n1, if_pos n1]
          exact ⟨fun q => by omega, fun q => by cases q.1⟩
      | false =>
        simp only [Bool.false_eq_true, if_false]
        by_cases he : (t.rs.getD i.toNat (0, 0)).1.tmod t.moon = (t.rs.getD p.toNat (0, 0)).1.tmod t.moon
        · have n1 : ¬ (t.rs.getD i.toNat (0, 0)).1.tmod t.moon ≠ (t.rs.getD p.toNat (0, 0)).1.tmod t.moon := fun q => q he
          rw [if_neg n1, if_neg n1]
          exact ver_cla t first l true i _ hi
        · have n1 : (t.rs.getD i.toNat (0, 0)).1.tmod t.moon ≠ (t.rs.getD p.toNat (0, 0)).1.tmod t.moon := he
          rw [if_pos n1, if_pos n1]
          exact ⟨fun q => by omega, fun q => by cases q.1⟩
    · have hi' := hi
      unfold inRs at hi'
      have c1 : ¬ (0 ≤ i ∧ i ≤ (t.rs.length : Int) - 1) := fun q => hi' ⟨q.1, by omega⟩
      have c2 : ¬ ((0 ≤ i ∧ i < (t.rs.length : Int)) ∧ 0 ≤ p ∧ p < (t.rs.length : Int)) := fun q => hi' q.1
      rw [if_neg c1, if_neg c2]
      exact ⟨fun q => by omega, fun q => by cases q.1⟩

theorem verify_clashes {t : Tide} (hc : checkT t = 0) {ring : List Int} (hl : ring.length ≤ 60) : rVerifyT t ring = 0 ↔ clashesT t ring = true := by
  unfold rVerifyT clashesT
  rw [if_neg (by rw [hc]; simp)]
  by_cases h : ring.length < 2 ∨ ring.length % 2 = 1
  · rw [if_pos h, if_neg (by omega)]
    simp
  · rw [if_neg h, if_pos ⟨by omega, by omega⟩]
    match ring, hl, h with
    | [], _, h => simp at h
    | [_], _, h => simp at h
    | i :: j :: l, _, _ =>
      have hlast : (i :: j :: l).getD ((i :: j :: l).length - 1) 0 = (i :: j :: l).getD (j :: l).length 0 := rfl
      rw [hlast]
      rw [rVerL, claL]
      by_cases hi : inRs t i
      · have hi' := hi
        unfold inRs at hi'
        have hv := ver_cla t (rd t i) (j :: l) true i (IntKind.i64.wrap (0 + (rd t i).2)) hi
        rw [if_pos ⟨hi'.1, by omega⟩]
        simp only [Bool.false_eq_true, if_false, Bool.true_eq_false, false_and, if_true]
        rw [hv]
        constructor
        · rintro ⟨h1, h2⟩
          have hin : inRs t ((i :: j :: l).getD (j :: l).length 0) := by
            refine claL_in t _ _ _ _ h1 _ ?_
            rw [List.getD_eq_getElem?_getD]
            simp only [List.length_cons, List.getElem?_cons_succ]
            rw [List.getElem?_eq_getElem (by simp)]
            exact List.getElem_mem _
          unfold inRs at hin
          rw [if_pos ⟨hi', hin⟩, if_neg (fun q => q h2)]
          exact h1
        · intro h
          split at h
          · split at h
            · cases h
            · rename_i h2
              exact ⟨h, Decidable.not_not.1 h2⟩
          · cases h
      · have hi' := hi
        unfold inRs at hi'
        rw [if_neg (fun q => hi' ⟨q.1, by omega⟩), if_neg (fun q => hi' q.1)]
        simp

/-- What is accepted contradicts all waves. -/
theorem rVer_not (t : Tide) (f : Node → Int) (hf : FitsF t f) (first : Int × Int) : ∀ (l : List Int) (odd : Bool) (prev : Int × Int) (sum : Int), inR sum → l.length % 2 = (if odd = true then 1 else 0) → rVerL t false odd first prev sum l = 0 →
    ¬ eqv (sum - (if odd = true then f (sN t prev) else -f (mN t prev))) (f (mN t first))
  | [], odd, prev, sum, hs, hl, h => by
    cases odd with
    | true => simp at hl
    | false =>
      simp only [rVerL] at h
      simp only [Bool.false_eq_true, if_false]
      by_cases he : first.1.tmod t.moon = prev.1.tmod t.moon
      · rw [if_neg (fun q => q he)] at h
        by_cases h0 : sum = 0
        · rw [if_pos h0] at h; omega
        · intro q
          refine h0 (eqv_eq ?_ hs (by unfold inR; omega))
          have hm : mN t first = mN t prev := by rw [mN, mN, he]
          rw [hm] at q
          unfold eqv at *
          generalize f (mN t prev) = z at *
          omega
      · rw [if_pos he] at h; omega
  | i :: l, odd, prev, sum, hs, hl, h => by
    rw [rVerL] at h
    split at h
    case isFalse => omega
    rename_i hr
    have hil : i.toNat < t.rs.length := by omega
    have hx : t.rs.getD i.toNat (0, 0) ∈ t.rs := by
      rw [List.getD_eq_getElem?_getD, List.getElem?_eq_getElem hil]
      exact List.getElem_mem _
    generalize t.rs.getD i.toNat (0, 0) = x at *
    have hfx := hf x hx
    have hl' : l.length % 2 = if (!odd) = true then 1 else 0 := by
      simp only [List.length_cons] at hl
      cases odd <;> simp at hl ⊢ <;> omega
    cases odd with
    | true =>
      simp only [if_true, Bool.false_eq_true, if_false] at h ⊢
      by_cases he : x.1.tmod t.sun = prev.1.tmod t.sun
      · rw [if_neg (fun q => q he)] at h
        have ih := rVer_not t f hf first l false x _ (wrap_range _) hl' h
        have hm : sN t prev = sN t x := by rw [sN, sN, he]
        rw [hm]
        intro q
        refine ih ?_
        have g := wrap_eqv (sum - x.2)
        simp only [Bool.false_eq_true, if_false]
        unfold eqv at *
        generalize IntKind.i64.wrap (sum - x.2) = w at *
        generalize f (sN t x) = a at *
        generalize f (mN t x) = b at *
        generalize f (mN t first) = c at *
        omega
      · rw [if_pos he] at h; omega
    | false =>
      simp only [Bool.false_eq_true, if_false, true_and] at h ⊢
      by_cases he : x.1.tmod t.moon = prev.1.tmod t.moon
      · rw [if_neg (fun q => q he)] at h
        have ih := rVer_not t f hf first l true x _ (wrap_range _) hl' h
        have hm : mN t prev = mN t x := by rw [mN, mN, he]
        rw [hm]
        intro q
        refine ih ?_
        have g := wrap_eqv (sum + x.2)
        simp only [if_true]
        unfold eqv at *
        generalize IntKind.i64.wrap (sum + x.2) = w at *
        generalize f (sN t x) = a at *
        generalize f (mN t x) = b at *
        generalize f (mN t first) = c at *
        omega
      · rw [if_pos he] at h; omega

theorem verify_not {t : Tide} {ring : List Int} (h : rVerifyT t ring = 0) : rFitsT t = 13 := by
  unfold rVerifyT at h
  split at h
  · contradiction
  · rename_i hc
    have hc' : checkT t = 0 := Decidable.not_not.1 hc
    unfold rFitsT
    rw [if_neg hc]
    split at h
    case isFalse => omega
    rename_i hl
    by_cases hf : rFits t = true
    · exfalso
      have hF := (rFits_fits (check_v hc')).1 hf
      match ring, h, hl with
      | [], _, hl => simp at hl
      | i :: l, h, hl =>
        rw [rVerL] at h
        split at h
        case isFalse => omega
        rename_i hr
        simp only [Bool.false_eq_true, if_false, Bool.true_eq_false, false_and, if_true] at h
        have hil : i.toNat < t.rs.length := by omega
        have hx : t.rs.getD i.toNat (0, 0) ∈ t.rs := by
          rw [List.getD_eq_getElem?_getD, List.getElem?_eq_getElem hil]
          exact List.getElem_mem _
        generalize t.rs.getD i.toNat (0, 0) = x at *
        refine rVer_not t _ hF x l true x _ (wrap_range _) (by have := hl.2; simp only [List.length_cons] at this; simp; omega) h ?_
        have hfx : eqv (at2 t (rSolved t) (sN t x) + at2 t (rSolved t) (mN t x)) x.2 := hF x hx
        have g := wrap_eqv (0 + x.2)
        simp only [if_true]
        unfold eqv at *
        generalize IntKind.i64.wrap (0 + x.2) = w at *
        generalize at2 t (rSolved t) (sN t x) = a at *
        generalize at2 t (rSolved t) (mN t x) = b at *
        omega
    · rw [if_neg hf]

/-! ### What is made is valid -/
theorem hrs_chk (P : Int → Int) : ∀ (l : List Int) (i : Nat) (h p : Int), (∀ n ∈ l, u8 n) → p ≤ h → 0 ≤ h → h ≤ 5 * i → (i = 0 → p < h) → (∀ h, -1000000 ≤ P h ∧ P h ≤ 1000000) → chk p ((hrs i h l).map fun h => (h, P h)) = 0
  | [], _, _, _, _, _, _, _, _, _ => by simp [hrs, chk]
  | g :: l, i, h, p, hu, hp, h0, hi, hz, hP => by
    have hg := hu g List.mem_cons_self
    unfold u8 at hg
    rw [hrs]
    by_cases h7 : 7 ≤ i
    · rw [if_pos h7]; rfl
    · rw [if_neg h7]
      obtain ⟨h1, e1⟩ : ∃ h1, h1 = if 0 < i ∧ g % 5 = 0 then h + g % 5 + 1 else h + g % 5 := ⟨_, rfl⟩
      rw [← e1]
      have hb : p < h1 ∧ h ≤ h1 ∧ h1 ≤ 5 * (i + 1 : Nat) := by
        rw [e1]
        split
        · omega
        · by_cases hi0 : i = 0
          · have := hz hi0
            omega
          · omega
      have hPh := hP h1
      rw [List.map_cons, chk, if_pos ⟨⟨by omega, by simp only; omega⟩, hPh⟩, if_neg (by simp only; omega)]
      exact hrs_chk P l (i + 1) h1 h1 (fun n hn => hu n (List.mem_cons_of_mem _ hn)) (Int.le_refl _) (by omega) hb.2.2 (by omega) hP

theorem chk_addW : ∀ (l : List (Int × Int)) (w : List Int) (p : Int), chk p l = 0 → (∀ n ∈ w, u8 n) → (∀ x ∈ l, -1000 ≤ x.2 ∧ x.2 ≤ 1000) → chk p (addW l w) = 0
  | [], _, _, h, _, _ => h
  | x :: l, [], _, h, _, _ => h
  | x :: l, b :: w, p, h, hw, hv => by
    have hx := hv x List.mem_cons_self
    have hb := hw b List.mem_cons_self
    unfold u8 at hb
    rw [chk] at h
    split at h
    case isFalse => omega
    rename_i hr
    split at h
    · omega
    · rename_i hp
      have ih := chk_addW l w x.1 h (fun n hn => hw n (List.mem_cons_of_mem _ hn)) (fun y hy => hv y (List.mem_cons_of_mem _ hy))
      rw [addW]
      by_cases h4 : b % 4 = 0
      · rw [if_pos h4, chk, if_pos ⟨hr.1, by simp only; omega⟩, if_neg hp]
        exact ih
      · rw [if_neg h4, chk, if_pos hr, if_neg hp]
        exact ih

theorem made_check {s : Sky} (ok : s.Ok) : checkT (madeT s) = 0 := by
  have h1 := ok.sun
  have h2 := ok.moon
  unfold u8 at h1 h2
  have h3 := madeR_len s
  unfold checkT
  have c1 : (1 ≤ mSun s ∧ mSun s ≤ 30) ∧ 1 ≤ mMoon s ∧ mMoon s ≤ 30 := by unfold mSun mMoon; omega
  have c2 : ¬ 60 < (madeR s).length := by omega
  rw [if_pos (show (1 ≤ (madeT s).sun ∧ (madeT s).sun ≤ 30) ∧ 1 ≤ (madeT s).moon ∧ (madeT s).moon ≤ 30 from c1), if_neg (show ¬ 60 < (madeT s).rs.length from c2)]
  show chk (-1) (madeR s) = 0
  exact hrs_chk (trueM s) _ 0 0 (-1) ok.hours (by omega) (by omega) (by omega) (by omega) fun h => by have := trueM_bnd ok h; omega

theorem wrong_check {s : Sky} (ok : s.Ok) : checkT (wrongT s) = 0 := by
  have h0 := made_check ok
  obtain ⟨k1, k2, k3, k4⟩ := checkT_zero h0
  have h3 := madeR_len s
  unfold checkT
  have c1 : (1 ≤ mSun s ∧ mSun s ≤ 30) ∧ 1 ≤ mMoon s ∧ mMoon s ≤ 30 := ⟨k1, k2⟩
  have c2 : ¬ 60 < (wrongR s).length := by rw [wrongR, addW_len]; omega
  rw [if_pos (show (1 ≤ (wrongT s).sun ∧ (wrongT s).sun ≤ 30) ∧ 1 ≤ (wrongT s).moon ∧ (wrongT s).moon ≤ 30 from c1), if_neg (show ¬ 60 < (wrongT s).rs.length from c2)]
  show chk (-1) (wrongR s) = 0
  refine chk_addW _ _ _ k4 ok.wrong fun x hx => ?_
  obtain ⟨h, _, rfl⟩ := List.mem_map.1 hx
  have := trueM_bnd ok h
  simp only; omega

end Go.Proofs.Ytlidakhdcnkabaa

namespace Go.Proofs.Ytlidakhdcnkabaa
open Go.AI
set_option linter.unusedSimpArgs false

open Classical in
noncomputable def asBytes (es : List (List AVal)) : Option (List Int) := if h : ∃ l : List Int, (∀ n ∈ l, u8 n) ∧ es = bytes l then some h.choose else none

theorem asBytes_some {es : List (List AVal)} {l : List Int} (h : asBytes es = some l) : (∀ n ∈ l, u8 n) ∧ es = bytes l := by
  unfold asBytes at h
  split at h
  · rename_i hh
    simp only [Option.some.injEq] at h
    subst h
    exact hh.choose_spec
  · cases h

theorem asBytes_at {l : List Int} (h : ∀ n ∈ l, u8 n) : asBytes (bytes l) = some l := by
  have hh : ∃ l' : List Int, (∀ n ∈ l', u8 n) ∧ bytes l = bytes l' := ⟨l, h, rfl⟩
  unfold asBytes
  rw [dif_pos hh, ← bytes_inj hh.choose_spec.2]

theorem free_bytes (l : List Int) (e : Bool) : Free (.il (bytes l) e) := .il _ _ (free_rows _ _ fun x a ha => by simp at ha; subst ha; exact .int _ _)

@[simp] theorem eq_bool (a b : Bool) : eqT Try.prog eqD 4 (.bool a) (.bool b) = some (a == b) := by simp [eqD, eqT]

noncomputable def X21 : Ext := .of [(12, worksS), (19, fitsS), (25, VerifyS), (28, wrongSkyS), (30, clashesS)] []
theorem X21.sound : X21.Sound Try.prog := Ext.of_sound ⟨works_sound, fits_sound, Verify_sound, wrongSky_sound, clashes_sound, trivial⟩
@[simp] theorem X21.raw_ (f : FuncId) : X21.raw f = false := rfl
@[simp] theorem X21.s12 : X21.spec 12 = worksS := rfl
@[simp] theorem X21.s19 : X21.spec 19 = fitsS := rfl
@[simp] theorem X21.s25 : X21.spec 25 = VerifyS := rfl
@[simp] theorem X21.s28 : X21.spec 28 = wrongSkyS := rfl
@[simp] theorem X21.s30 : X21.spec 30 = clashesS := rfl

noncomputable def law6S : FSpec := fun xs nx G => match xs with
  | [r, .il es _] => ofOpt (asSky r) fun _ => ofOpt (asBytes es) fun _ => valR nx G (.bool true)
  | _ => .fail

theorem law6_at {s : Sky} (h : s.Ok) (eh ew ec : Bool) {l : List Int} (hl : ∀ n ∈ l, u8 n) (nx G : Nat) : law6S [.agg (skyC s eh ew), .il (bytes l) ec] nx G = valR nx G (.bool true) := by
  simp only [law6S, asSky_at h, asBytes_at hl, ofOpt]

theorem law6_sound : FSound Try.prog 6 law6S := by
  refine fsound_pure Try.func6 (by kernel_rfl) rfl _ fun xs nx G d hp h => ?_
  unfold law6S at h
  split at h
  · rename_i r es ec
    replace h := rd_opt h; obtain ⟨s, hs, h⟩ := h
    replace h := rd_opt h; obtain ⟨cells, hce, h⟩ := h
    obtain ⟨ok, eh, ew, rfl⟩ := asSky_some hs
    obtain ⟨hcu, rfl⟩ := asBytes_some hce
    have hd := rd_val h
    subst hd
    refine ⟨by simp [Try.f6], all2 (.agg _ (skyC_free eh ew)) (free_bytes _ _), ?_⟩
    have one : ∀ {st : St}, tget st.tmps 4 = .bool true → Ends0 Try.prog Try.f6 st nx G ⟨.bool true, [], nx, G⟩ := fun {st} hv => ends_free (l := [.tmp 4]) rfl (rs := [.bool true]) (by simp [hv]) (fun k => by simp) (by simp)
    have hlen := skyC_len eh ew ok
    have hsc := skyC_sc (s := s) eh ew
    have htk : List.take 14 (skyC s eh ew) = skyC s eh ew := List.take_of_length_le (by omega)
    have okb := okEs_bytes cells
    have hchk := wrong_check ok
    have hws := fun nx G => wrongSky_at ok eh ew nx G
    generalize wrongT s = t at *
    obtain ⟨k1, k2, k3, k4⟩ := checkT_zero hchk
    refine .step X21.sound (by kernel_rfl) (by simp [hlen, hsc]; exact rfl) ?_ -- region 0
    refine .step X21.sound (by kernel_rfl) (by simp [hlen, htk, fz_sky, hws]; exact rfl) ?_ -- region 1
    refine .seq ?_
    by_cases hn : t.rs.length = 0
    · have hv : verifyT t [0, 0] = 6 := by
        rw [verify_same]
        unfold rVerifyT
        rw [if_neg (by rw [hchk]; simp), if_pos (by simp), rVerL, if_neg (by omega)]
      have hva : ∀ nx G, VerifyS [tideA t false, .il [[.int .i64 0], [.int .i64 0]] false] nx G = valR nx G (.int .i64 6) := fun nx G => by
        rw [ver_at t [[.int .i64 0], [.int .i64 0]] [0, 0] rfl, hv]
      refine .step X21.sound (by kernel_rfl) (by simp [hn]; exact rfl) ?_ -- region 2
      refine .cond (t := true) (by simp) ?_
      refine .step X21.sound (by kernel_rfl) (by simp [hva]; exact rfl) ?_ -- region 3
      exact .ret ⟨.inr rfl, one (by simp)⟩
    · have hn1 : t.rs ≠ [] := by intro q; rw [q] at hn; simp at hn
      have hn2 : (t.rs.length : Int) ≠ 0 := by omega
      refine .step X21.sound (by kernel_rfl) (by simp [hn1, hn2]; exact rfl) ?_ -- region 2
      refine .cond (t := false) (by simp [hn1]) (.skip ?_)
      refine .step X21.sound (by kernel_rfl) (by simp; exact rfl) ?_ -- region 4
      refine .view (View.virt _ 6 2 1 true (by simp)) ?_
      refine .seq (.step X21.sound (by kernel_rfl) (by simp; exact rfl) (.block ?_)) -- region 5
      refine .loopV (fun k st => ∃ (rg : List Int) (g G : Nat), k = 6 - rg.length ∧ rg.length ≤ 6 ∧ st = ⟨[(1, .il (bytes cells) ec), (5, .ptr 1 1 0 0), (6, .sl 2 g 0 rg.length), (7, .int .i64 rg.length)], [(1, some (.row 3 [tideC t false] 1 true)), (2, some (.row 1 (ints rg) g true))], 3, G⟩) ?_ (View.norm _ [1, 5, 6, 7] [1, 2] 3 4 (by simp)) ⟨[], 2, 4, rfl, by simp, by simp⟩
      rintro k st ⟨rg, g, G1, hk, hr6, rfl⟩
      have hz : t.sun ≠ 0 ∧ t.moon ≠ 0 := by omega
      have hva : ∀ e nx G, VerifyS [tideA t false, .il (ints rg) e] nx G = valR nx G (.int .i64 (rVerifyT t rg)) := fun e nx G => by rw [← verify_same]; exact Verify_at t false e rg nx G
      have hca : ∀ e nx G, clashesS [tideA t false, .il (ints rg) e] nx G = valR nx G (.bool (clashesT t rg)) := fun e nx G => clashes_at t false e rg ⟨hz, by omega⟩ nx G
      have hfa : ∀ nx G, fitsS [tideA t false] nx G = valR nx G (.int .i64 (rFitsT t)) := fun nx G => by rw [← fits_same]; exact fits_at t false nx G
      have hvc := verify_clashes hchk (ring := rg) (by omega)
      have hvn := verify_not (t := t) (ring := rg)
      refine .seq ?_
      by_cases hj : rg.length < cells.length ∧ rg.length < 6
      · obtain ⟨hj1, hj2⟩ := hj
        obtain ⟨b, hb⟩ : ∃ b, cells[rg.length]? = some b := ⟨_, List.getElem?_eq_getElem hj1⟩
        have hbe : cells[rg.length] = b := by rw [List.getElem?_eq_getElem hj1] at hb; simpa using hb
        have hbm := hcu _ (List.mem_of_getElem? hb)
        unfold u8 at hbm
        have hj3 : (rg.length : Int) < 6 := by omega
        have q1 : IntKind.i64.wrap b = b := wrap64 (by omega) (by omega)
        have q2 : (rg.length + 1) * 8 ≤ room := by simp [room]; omega
        have q3 : IntKind.i64.wrap ((rg.length : Int) + 1) = (rg.length : Int) + 1 := wrap64 (by omega) (by omega)
        refine .step X21.sound (by kernel_rfl) (by simp [hj1, hj3]; exact rfl) ?_ -- region 6
        refine .cond (t := true) (by simp) (.skip (.seq (.block ?_)))
        refine .drawn mixed X21.sound (by kernel_rfl) (by kernel_rfl) (runD_tr (by simp [elems, appR, hj1, hbe, okb, q1, q2, hn1, hn2]; exact ⟨rfl, rfl⟩)) (looseB_spec (by kernel_rfl)) ?_ -- region 8
        refine .region X21.sound (by kernel_rfl) (by simp [q3]; exact rfl) ?_ -- region 7
        refine ⟨_, _, View.norm _ [1, 5, 6, 7] [1, 2] 3 (G1 + 2) (by simp), ?_, rg ++ [b.tmod t.rs.length], G1 + 1, G1 + 2, rfl, by simp; omega, by simp⟩
        simp; omega
      · by_cases hj1 : rg.length < cells.length
        · have hj3 : ¬ (rg.length : Int) < 6 := by omega
          refine .step X21.sound (by kernel_rfl) (by simp [hj1, hj3]; exact rfl) ?_ -- region 6
          refine .cond (t := false) (by simp) ?_
          refine .exit ?_ -- 0
          by_cases hv : rVerifyT t rg = 0
          · have hc1 : clashesT t rg = true := hvc.1 hv
            have hf1 : rFitsT t = 13 := hvn hv
            refine .step X21.sound (by kernel_rfl) (by simp [hva, hv]; exact rfl) ?_ -- region 9
            refine .step X21.sound (by kernel_rfl) (by simp [hca, hc1, hfa, hf1]; exact rfl) ?_ -- region 10
            exact .ret ⟨.inr rfl, one (by simp)⟩
          · have hc1 : clashesT t rg = false := by
              cases h : clashesT t rg with
              | false => rfl
              | true => exact absurd (hvc.2 h) hv
            have hvb : (rVerifyT t rg == 0) = false := by simpa using hv
            refine .step X21.sound (by kernel_rfl) (by simp [hva, hvb]; exact rfl) ?_ -- region 9
            refine .step X21.sound (by kernel_rfl) (by simp [hca, hc1]; exact rfl) ?_ -- region 10
            exact .ret ⟨.inr rfl, one (by simp)⟩
        · refine .step X21.sound (by kernel_rfl) (by simp [hj1]; exact rfl) ?_ -- region 6
          refine .cond (t := false) (by simp) ?_
          refine .exit ?_ -- 0
          by_cases hv : rVerifyT t rg = 0
          · have hc1 : clashesT t rg = true := hvc.1 hv
            have hf1 : rFitsT t = 13 := hvn hv
            refine .step X21.sound (by kernel_rfl) (by simp [hva, hv]; exact rfl) ?_ -- region 9
            refine .step X21.sound (by kernel_rfl) (by simp [hca, hc1, hfa, hf1]; exact rfl) ?_ -- region 10
            exact .ret ⟨.inr rfl, one (by simp)⟩
          · have hc1 : clashesT t rg = false := by
              cases h : clashesT t rg with
              | false => rfl
              | true => exact absurd (hvc.2 h) hv
            have hvb : (rVerifyT t rg == 0) = false := by simpa using hv
            refine .step X21.sound (by kernel_rfl) (by simp [hva, hvb]; exact rfl) ?_ -- region 9
            refine .step X21.sound (by kernel_rfl) (by simp [hca, hc1]; exact rfl) ?_ -- region 10
            exact .ret ⟨.inr rfl, one (by simp)⟩
  · exact (rd_fail h).elim

end Go.Proofs.Ytlidakhdcnkabaa
