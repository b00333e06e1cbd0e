/- The reference's is an assignment, too. Plain law. The reference's is an assignment, too. Plain law. Program and reference find the same. Plain law. No condition. -/
import Derived.Test.YtlidakhdcnkabaaM18
namespace Go.Proofs.Ytlidakhdcnkabaa
open Go.AI

/-- A node's entry. -/
def at1 (t : Tide) (v : PW) (u : Node) : Int := v.1.getD (idx t u).toNat 0
def at2 (t : Tide) (v : PW) (u : Node) : Int := v.2.getD (idx t u).toNat 0
/-- A node is entered. -/
def enter (t : Tide) (v : PW) (a : Node) (i w : Int) : PW := (v.1.set (idx t a).toNat i, v.2.set (idx t a).toNat w)

theorem idx_range {t : Tide} (hok : rOk t) {u : Node} (hu : u ∈ allNodes t) : 0 ≤ idx t u ∧ idx t u < rSize t := by
  obtain ⟨⟨h1, h2⟩, _⟩ := hok
  rw [mem_all] at hu
  unfold idx rSize
  rcases hu with ⟨h, h3, h4⟩ | ⟨h, h3, h4⟩ <;> rw [h]
  · rw [if_pos rfl]; omega
  · rw [if_neg (by decide)]; omega

theorem idx_nat {t : Tide} (hok : rOk t) {u a : Node} (hu : u ∈ allNodes t) (ha : a ∈ allNodes t) : (idx t a).toNat = (idx t u).toNat ↔ u = a := by
  have h1 := idx_range hok hu
  have h2 := idx_range hok ha
  constructor
  · intro h
    exact idx_inj hu ha (by omega)
  · rintro rfl; rfl

theorem getD_set (l : List Int) (i k : Nat) (x : Int) (hi : i < l.length) : (l.set i x).getD k 0 = if i = k then x else l.getD k 0 := by
  simp only [List.getD_eq_getElem?_getD, List.getElem?_set]
  split
  · simp
  · rfl

theorem enter_len {t : Tide} {v : PW} {n : Nat} (h : rLen n v) (a : Node) (i w : Int) : rLen n (enter t v a i w) := by simp [rLen, enter, h.1, h.2]

section
variable {t : Tide} (hok : rOk t) {v : PW} (hl : rLen (rSize t) v) {a u : Node} (ha : a ∈ allNodes t) (hu : u ∈ allNodes t) (i w : Int)
include hok hl ha hu
theorem at1_enter : at1 t (enter t v a i w) u = if u = a then i else at1 t v u := by
  have h := idx_range hok ha
  simp only [at1, enter]
  rw [getD_set _ _ _ _ (by rw [hl.1]; omega)]
  by_cases e : u = a
  · rw [if_pos e, if_pos ((idx_nat hok hu ha).2 e)]
  · rw [if_neg e, if_neg (fun h => e ((idx_nat hok hu ha).1 h))]
theorem at2_enter : at2 t (enter t v a i w) u = if u = a then w else at2 t v u := by
  have h := idx_range hok ha
  simp only [at2, enter]
  rw [getD_set _ _ _ _ (by rw [hl.2]; omega)]
  by_cases e : u = a
  · rw [if_pos e, if_pos ((idx_nat hok hu ha).2 e)]
  · rw [if_neg e, if_neg (fun h => e ((idx_nat hok hu ha).1 h))]
end

/-- How many have not been entered. -/
def neg (v : PW) : Nat := v.1.countP fun x => decide (x < 0)

theorem neg_enter {t : Tide} (hok : rOk t) {v : PW} (hl : rLen (rSize t) v) {a : Node} (ha : a ∈ allNodes t) (i w : Int) (hi : 0 ≤ i) (hneg : at1 t v a < 0) : neg (enter t v a i w) + 1 = neg v := by
  have h := idx_range hok ha
  have hlt : (idx t a).toNat < v.1.length := by rw [hl.1]; omega
  have hx : v.1[(idx t a).toNat] = at1 t v a := by
    simp only [at1, List.getD_eq_getElem?_getD, List.getElem?_eq_getElem hlt, Option.getD_some]
  have hpos : 0 < v.1.countP fun x => decide (x < 0) := List.countP_pos_iff.2 ⟨v.1[(idx t a).toNat], List.getElem_mem _, by rw [hx]; simpa using hneg⟩
  simp only [neg, enter]
  rw [List.countP_set (h := hlt), hx]
  simp only [hneg, decide_true, if_true]
  have : ¬ i < 0 := by omega
  simp only [this, decide_false, Bool.false_eq_true, if_false]
  omega

/-- A reading's step, by its nodes. -/
theorem rStep_eq (t : Tide) (i : Nat) (v : PW) (x : Int × Int) : rStep t i v x =
    (let v1 : PW := if at1 t v (sN t x) = i ∧ at1 t v (mN t x) < 0 then enter t v (mN t x) i (IntKind.i64.wrap (x.2 - at2 t v (sN t x))) else v
     if at1 t v1 (mN t x) = i ∧ at1 t v1 (sN t x) < 0 then enter t v1 (sN t x) i (IntKind.i64.wrap (x.2 - at2 t v1 (mN t x))) else v1) := by
  simp only [rStep, at1, at2, enter, idx]
  rfl

/-- What one entry adds. -/
inductive Adds (t : Tide) (i : Nat) : PW → PW → Prop
  | refl (v : PW) : Adds t i v v
  | moon (v v' : PW) (x : Int × Int) (hx : x ∈ t.rs) (h1 : at1 t v (sN t x) = i) (h2 : at1 t v (mN t x) < 0) (h : Adds t i (enter t v (mN t x) i (IntKind.i64.wrap (x.2 - at2 t v (sN t x)))) v') : Adds t i v v'
  | sun (v v' : PW) (x : Int × Int) (hx : x ∈ t.rs) (h1 : at1 t v (mN t x) = i) (h2 : at1 t v (sN t x) < 0) (h : Adds t i (enter t v (sN t x) i (IntKind.i64.wrap (x.2 - at2 t v (mN t x)))) v') : Adds t i v v'

theorem Adds.trans {t : Tide} {i : Nat} {a b c : PW} (h : Adds t i a b) (h' : Adds t i b c) : Adds t i a c := by
  induction h with
  | refl v => exact h'
  | moon v v' x hx h1 h2 _ ih => exact .moon v c x hx h1 h2 (ih h')
  | sun v v' x hx h1 h2 _ ih => exact .sun v c x hx h1 h2 (ih h')

def Stab (t : Tide) (i : Nat) (v : PW) (x : Int × Int) : Prop := ¬ (at1 t v (sN t x) = i ∧ at1 t v (mN t x) < 0) ∧ ¬ (at1 t v (mN t x) = i ∧ at1 t v (sN t x) < 0)

theorem rStep_adds {t : Tide} (hok : rOk t) {i : Nat} {v : PW} (hl : rLen (rSize t) v) {x : Int × Int} (hx : x ∈ t.rs) : Adds t i v (rStep t i v x) ∧ ((rStep t i v x = v ∧ Stab t i v x) ∨ neg (rStep t i v x) < neg v) := by
  obtain ⟨hs, hm⟩ := ends_mem hok hx
  rw [rStep_eq]
  simp only
  by_cases c1 : at1 t v (sN t x) = i ∧ at1 t v (mN t x) < 0
  · rw [if_pos c1]
    have hl1 := enter_len hl (t := t) (mN t x) (i : Int) (IntKind.i64.wrap (x.2 - at2 t v (sN t x)))
    have hn1 := neg_enter hok hl hm (i : Int) (IntKind.i64.wrap (x.2 - at2 t v (sN t x))) (by omega) c1.2
    by_cases c2 : at1 t (enter t v (mN t x) i (IntKind.i64.wrap (x.2 - at2 t v (sN t x)))) (mN t x) = i ∧ at1 t (enter t v (mN t x) i (IntKind.i64.wrap (x.2 - at2 t v (sN t x)))) (sN t x) < 0
    · rw [if_pos c2]
      have hn2 := neg_enter hok hl1 hs (i : Int) (IntKind.i64.wrap (x.2 - at2 t (enter t v (mN t x) i (IntKind.i64.wrap (x.2 - at2 t v (sN t x)))) (mN t x))) (by omega) c2.2
      exact ⟨.moon v _ x hx c1.1 c1.2 (.sun _ _ x hx c2.1 c2.2 (.refl _)), .inr (by omega)⟩
    · rw [if_neg c2]
      exact ⟨.moon v _ x hx c1.1 c1.2 (.refl _), .inr (by omega)⟩
  · rw [if_neg c1]
    by_cases c2 : at1 t v (mN t x) = i ∧ at1 t v (sN t x) < 0
    · rw [if_pos c2]
      have hn2 := neg_enter hok hl hs (i : Int) (IntKind.i64.wrap (x.2 - at2 t v (mN t x))) (by omega) c2.2
      exact ⟨.sun v _ x hx c2.1 c2.2 (.refl _), .inr (by omega)⟩
    · rw [if_neg c2]
      exact ⟨.refl _, .inl ⟨rfl, c1, c2⟩⟩

theorem fold_adds {t : Tide} (hok : rOk t) {i : Nat} : ∀ (l : List (Int × Int)) (v : PW), (∀ x ∈ l, x ∈ t.rs) → rLen (rSize t) v → Adds t i v (l.foldl (rStep t i) v) ∧ ((l.foldl (rStep t i) v = v ∧ ∀ x ∈ l, Stab t i v x) ∨ neg (l.foldl (rStep t i) v) < neg v)
  | [], v, _, _ => ⟨.refl v, .inl ⟨rfl, by simp⟩⟩
  | x :: l, v, hin, hl => by
    obtain ⟨a1, h1⟩ := rStep_adds hok (i := i) hl (hin x List.mem_cons_self)
    obtain ⟨a2, h2⟩ := fold_adds hok (i := i) l (rStep t i v x) (fun y hy => hin y (List.mem_cons_of_mem _ hy)) (rStep_len hl)
    rw [List.foldl_cons]
    refine ⟨a1.trans a2, ?_⟩
    rcases h1 with ⟨e, s⟩ | h1
    · rw [e] at h2 ⊢
      rcases h2 with ⟨e2, s2⟩ | h2
      · exact .inl ⟨e2, fun y hy => (List.mem_cons.1 hy).elim (fun h => h ▸ s) (s2 y)⟩
      · exact .inr h2
    · rcases h2 with ⟨e2, _⟩ | h2
      · rw [e2]; exact .inr h1
      · exact .inr (by omega)

theorem rounds_fix {t : Tide} {i : Nat} {v : PW} (h : rRound t i v = v) : ∀ k, rRounds t i k v = v
  | 0 => rfl
  | k + 1 => by rw [rRounds, h]; exact rounds_fix h k

theorem rounds_adds {t : Tide} (hok : rOk t) {i : Nat} : ∀ (k : Nat) (v : PW), rLen (rSize t) v → Adds t i v (rRounds t i k v) ∧ (neg v < k → ∀ x ∈ t.rs, Stab t i (rRounds t i k v) x)
  | 0, v, _ => ⟨.refl v, fun h => by omega⟩
  | k + 1, v, hl => by
    obtain ⟨a1, h1⟩ := fold_adds hok (i := i) t.rs v (fun _ h => h) hl
    obtain ⟨a2, h2⟩ := rounds_adds hok (i := i) k (rRound t i v) (rRound_len hl)
    rw [rRounds]
    refine ⟨Adds.trans a1 a2, fun hk => ?_⟩
    rcases h1 with ⟨e, s⟩ | h1
    · have e' : rRound t i v = v := e
      rw [e', rounds_fix e']
      exact s
    · exact h2 (by have h1' : neg (rRound t i v) < neg v := h1; omega)

end Go.Proofs.Ytlidakhdcnkabaa

namespace Go.Proofs.Ytlidakhdcnkabaa
open Go.AI

/-- While node n, the i-th, is followed. -/
structure Fol (t : Tide) (i : Nat) (n : Node) (v0 v : PW) : Prop where
  len : rLen (rSize t) v
  self : at1 t v n = i
  mono : ∀ u ∈ allNodes t, (at1 t v u = at1 t v0 u ∧ at2 t v u = at2 t v0 u) ∨ (at1 t v0 u < 0 ∧ at1 t v u = i ∧ Known t u n (at2 t v u))

theorem Fol.adds {t : Tide} (hok : rOk t) {i : Nat} {n : Node} (hn : n ∈ allNodes t) {v0 : PW} (hno : ∀ u ∈ allNodes t, at1 t v0 u ≠ i) {v v' : PW} (h : Adds t i v v') : Fol t i n v0 v → Fol t i n v0 v' := by
  induction h with
  | refl v => exact id
  | moon v v' x hx h1 h2 _ ih =>
    intro hf
    obtain ⟨hs, hm⟩ := ends_mem hok hx
    have hk : Known t (sN t x) n (at2 t v (sN t x)) := by
      rcases hf.mono _ hs with ⟨e, _⟩ | ⟨_, _, k⟩
      · rw [e] at h1; exact absurd h1 (hno _ hs)
      · exact k
    have hmn : mN t x ≠ n := fun e => by rw [e, hf.self] at h2; omega
    refine ih ⟨enter_len hf.len _ _ _, by rw [at1_enter hok hf.len hm hn, if_neg (Ne.symm hmn)]; exact hf.self, fun u hu => ?_⟩
    rw [at1_enter hok hf.len hm hu, at2_enter hok hf.len hm hu]
    by_cases hum : u = mN t x
    · subst hum
      rw [if_pos rfl, if_pos rfl]
      rcases hf.mono _ hm with ⟨e, _⟩ | ⟨_, e, _⟩
      · exact .inr ⟨by rw [← e]; exact h2, rfl, hk.moon hx⟩
      · rw [e] at h2; omega
    · rw [if_neg hum, if_neg hum]
      exact hf.mono u hu
  | sun v v' x hx h1 h2 _ ih =>
    intro hf
    obtain ⟨hs, hm⟩ := ends_mem hok hx
    have hk : Known t (mN t x) n (at2 t v (mN t x)) := by
      rcases hf.mono _ hm with ⟨e, _⟩ | ⟨_, _, k⟩
      · rw [e] at h1; exact absurd h1 (hno _ hm)
      · exact k
    have hsn : sN t x ≠ n := fun e => by rw [e, hf.self] at h2; omega
    refine ih ⟨enter_len hf.len _ _ _, by rw [at1_enter hok hf.len hs hn, if_neg (Ne.symm hsn)]; exact hf.self, fun u hu => ?_⟩
    rw [at1_enter hok hf.len hs hu, at2_enter hok hf.len hs hu]
    by_cases hus : u = sN t x
    · subst hus
      rw [if_pos rfl, if_pos rfl]
      rcases hf.mono _ hs with ⟨e, _⟩ | ⟨_, e, _⟩
      · exact .inr ⟨by rw [← e]; exact h2, rfl, hk.sun hx⟩
      · rw [e] at h2; omega
    · rw [if_neg hus, if_neg hus]
      exact hf.mono u hu

/-- Before the i-th node is looked at. -/
structure Bef (t : Tide) (i : Nat) (v : PW) : Prop where
  len : rLen (rSize t) v
  early : ∀ u ∈ allNodes t, idx t u < i → 0 ≤ at1 t v u
  know : ∀ u ∈ allNodes t, 0 ≤ at1 t v u → ∃ r ∈ allNodes t, at1 t v u = idx t r ∧ 0 ≤ at1 t v r ∧ Known t u r (at2 t v u) ∧ idx t r ≤ idx t u
  zero : ∀ u ∈ allNodes t, at1 t v u < 0 → at2 t v u = 0
  pair : ∀ x ∈ t.rs, (at1 t v (sN t x) < 0 ∧ at1 t v (mN t x) < 0) ∨ (0 ≤ at1 t v (sN t x) ∧ at1 t v (sN t x) = at1 t v (mN t x))

theorem node_at (t : Tide) {i : Nat} (hi : i < rSize t) : ∃ n ∈ allNodes t, idx t n = i := by
  unfold rSize at hi
  by_cases h : (i : Int) < t.sun
  · exact ⟨(0, i), mem_all.2 (.inl ⟨rfl, by omega, h⟩), by simp [idx]⟩
  · exact ⟨(1, i - t.sun), mem_all.2 (.inr ⟨rfl, by simp only; omega, by simp only; omega⟩), by simp only [idx]; rw [if_neg (by decide)]; omega⟩

theorem Bef.next {t : Tide} (hok : rOk t) {i : Nat} (hi : i < rSize t) {v : PW} (h : Bef t i v) : Bef t (i + 1) (rNode t (rSize t) v i) := by
  obtain ⟨n, hn, hni⟩ := node_at t hi
  have hnt : (idx t n).toNat = i := by omega
  have hat : v.1.getD i 0 = at1 t v n := by rw [at1, hnt]
  unfold rNode
  rw [hat]
  split
  · rename_i hp
    refine ⟨h.len, fun u hu hlt => ?_, h.know, h.zero, h.pair⟩
    by_cases e : idx t u < i
    · exact h.early u hu e
    · rw [idx_inj hu hn (by omega)]; exact hp
  · rename_i hp
    have hneg : at1 t v n < 0 := by omega
    have hno : ∀ u ∈ allNodes t, at1 t v u ≠ i := by
      intro u hu e
      obtain ⟨r, hr, h1, h2, _⟩ := h.know u hu (by omega)
      have : r = n := idx_inj hr hn (by omega)
      rw [this] at h2
      omega
    obtain ⟨v1, hv1⟩ : ∃ v1 : PW, v1 = (v.1.set i i, v.2) := ⟨_, rfl⟩
    have hl1 : rLen (rSize t) v1 := by rw [hv1]; exact ⟨by simp [h.len.1], h.len.2⟩
    have ha1 : ∀ u ∈ allNodes t, at1 t v1 u = if u = n then (i : Int) else at1 t v u := by
      intro u hu
      have := at1_enter hok h.len hn hu (i : Int) 0
      rw [← this, hv1]
      simp only [at1, enter, hnt]
    have ha2 : ∀ u, at2 t v1 u = at2 t v u := fun u => by rw [hv1]; rfl
    have hf1 : Fol t i n v v1 := by
      refine ⟨hl1, by rw [ha1 n hn, if_pos rfl], fun u hu => ?_⟩
      rw [ha1 u hu, ha2]
      by_cases e : u = n
      · subst e
        rw [if_pos rfl, h.zero u hu hneg]
        exact .inr ⟨hneg, rfl, Known.root t u⟩
      · rw [if_neg e]; exact .inl ⟨rfl, rfl⟩
    have hnum : neg v1 < rSize t := by
      have h1 := neg_enter hok h.len hn (i : Int) 0 (by omega) hneg
      have h2 : neg (enter t v n i 0) = neg v1 := by rw [hv1]; simp only [neg, enter, hnt]
      have h3 : neg v ≤ rSize t := by rw [← h.len.1]; exact List.countP_le_length
      omega
    obtain ⟨had, hst⟩ := rounds_adds hok (i := i) (rSize t) v1 hl1
    have hst := hst hnum
    have hf := Fol.adds hok hn hno had hf1
    rw [← hv1]
    generalize rRounds t i (rSize t) v1 = v2 at *
    have hpos : ∀ u ∈ allNodes t, 0 ≤ at1 t v u → at1 t v2 u = at1 t v u ∧ at2 t v2 u = at2 t v u := fun u hu hp => by
      rcases hf.mono u hu with e | ⟨e, _⟩
      · exact e
      · omega
    refine ⟨hf.len, fun u hu hlt => ?_, fun u hu hp => ?_, fun u hu hp => ?_, fun x hx => ?_⟩
    · by_cases e : idx t u < i
      · have := h.early u hu e
        rw [(hpos u hu this).1]; exact this
      · rw [idx_inj hu hn (by omega), hf.self]; omega
    · rcases hf.mono u hu with ⟨e1, e2⟩ | ⟨e1, e2, e3⟩
      · rw [e1] at hp
        obtain ⟨r, hr, h1, h2, h3, h4⟩ := h.know u hu hp
        exact ⟨r, hr, by rw [e1]; exact h1, by rw [(hpos r hr h2).1]; exact h2, by rw [e2]; exact h3, h4⟩
      · refine ⟨n, hn, by rw [e2, hni], by rw [hf.self]; omega, e3, ?_⟩
        by_cases e : idx t u < i
        · have := h.early u hu e; omega
        · omega
    · rcases hf.mono u hu with ⟨e1, e2⟩ | ⟨e1, e2, _⟩
      · rw [e2]; exact h.zero u hu (by rw [← e1]; exact hp)
      · omega
    · obtain ⟨hs, hm⟩ := ends_mem hok hx
      obtain ⟨s1, s2⟩ := hst x hx
      rcases h.pair x hx with ⟨h1, h2⟩ | ⟨h1, h2⟩
      · rcases hf.mono _ hs with ⟨e1, _⟩ | ⟨_, e1, _⟩ <;> rcases hf.mono _ hm with ⟨e2, _⟩ | ⟨_, e2, _⟩
        · exact .inl ⟨by rw [e1]; exact h1, by rw [e2]; exact h2⟩
        · exact absurd ⟨e2, by rw [e1]; exact h1⟩ s2
        · exact absurd ⟨e1, by rw [e2]; exact h2⟩ s1
        · exact .inr ⟨by rw [e1]; omega, by rw [e1, e2]⟩
      · rw [(hpos _ hs h1).1, (hpos _ hm (by rw [← h2]; exact h1)).1]
        exact .inr ⟨h1, h2⟩

theorem rnodes_bef {t : Tide} (hok : rOk t) : ∀ (m i : Nat) (v : PW), i + m = rSize t → Bef t i v → Bef t (rSize t) (rNodes t (rSize t) (List.range' i m) v)
  | 0, i, v, he, h => by
    have : i = rSize t := by omega
    rw [← this]; exact h
  | m + 1, i, v, he, h => by
    rw [List.range'_succ, rNodes, List.foldl_cons]
    exact rnodes_bef hok m (i + 1) _ (by omega) (h.next hok (by omega))

theorem rSolved_bef {t : Tide} (hok : rOk t) : Bef t (rSize t) (rSolved t) := by
  have hidx : ∀ u ∈ allNodes t, (idx t u).toNat < rSize t := fun u hu => by have := idx_range hok hu; omega
  have e1 : ∀ u ∈ allNodes t, at1 t (List.replicate (rSize t) (-1), List.replicate (rSize t) 0) u = -1 := fun u hu => by
    simp only [at1, List.getD_eq_getElem?_getD, List.getElem?_replicate, if_pos (hidx u hu), Option.getD_some]
  have e2 : ∀ u ∈ allNodes t, at2 t (List.replicate (rSize t) (-1), List.replicate (rSize t) 0) u = 0 := fun u hu => by
    simp only [at2, List.getD_eq_getElem?_getD, List.getElem?_replicate, if_pos (hidx u hu), Option.getD_some]
  unfold rSolved
  rw [List.range_eq_range']
  refine rnodes_bef hok (rSize t) 0 _ (by omega) ⟨⟨by simp, by simp⟩, fun u hu h => ?_, fun u hu h => ?_, fun u hu _ => e2 u hu, fun x hx => ?_⟩
  · have := (idx_range hok hu).1; omega
  · rw [e1 u hu] at h; omega
  · obtain ⟨hs, hm⟩ := ends_mem hok hx
    exact .inl ⟨by rw [e1 _ hs]; omega, by rw [e1 _ hm]; omega⟩

/-- The node that has a place. -/
def nodeOf (t : Tide) (k : Int) : Node := if k < t.sun then (0, k) else (1, k - t.sun)

theorem nodeOf_idx {t : Tide} {u : Node} (hu : u ∈ allNodes t) : nodeOf t (idx t u) = u := by
  obtain ⟨a, b⟩ := u
  rw [mem_all] at hu
  unfold nodeOf idx
  rcases hu with ⟨h, h3, h4⟩ | ⟨h, h3, h4⟩ <;> simp only at h h3 h4 <;> subst h
  · rw [if_pos rfl, if_pos h4]
  · simp only [show ¬ (1 : Int) = 0 by decide, if_false]
    rw [if_neg (by omega)]
    simp only [Prod.mk.injEq, true_and]
    omega

theorem rSolved_asg {t : Tide} (hok : rOk t) : Asg t (fun u => nodeOf t (at1 t (rSolved t) u)) (fun u => at2 t (rSolved t) u) := by
  have h := rSolved_bef hok
  have hall : ∀ u ∈ allNodes t, ∃ r ∈ allNodes t, at1 t (rSolved t) u = idx t r ∧ nodeOf t (at1 t (rSolved t) u) = r ∧ Known t u r (at2 t (rSolved t) u) ∧ idx t r ≤ idx t u := by
    intro u hu
    obtain ⟨r, hr, h1, _, h3, h4⟩ := h.know u hu (h.early u hu (idx_range hok hu).2)
    exact ⟨r, hr, h1, by rw [h1]; exact nodeOf_idx hr, h3, h4⟩
  refine ⟨fun x hx => ?_, fun u hu => ?_, fun u hu => ?_⟩
  · obtain ⟨hs, hm⟩ := ends_mem hok hx
    have hs0 := h.early _ hs (idx_range hok hs).2
    rcases h.pair x hx with ⟨h1, _⟩ | ⟨_, h2⟩
    · omega
    · simp only [h2]
  · obtain ⟨r, hr, _, e, h3, _⟩ := hall u hu
    simp only [e]; exact h3
  · obtain ⟨r, hr, _, e, _, h4⟩ := hall u hu
    simp only [e]; exact ⟨h4, hr⟩

theorem rSolved_place {t : Tide} (hok : rOk t) {u : Node} (hu : u ∈ allNodes t) : at1 t (rSolved t) u = idx t (nodeOf t (at1 t (rSolved t) u)) := by
  have h := rSolved_bef hok
  obtain ⟨r, hr, h1, _⟩ := h.know u hu (h.early u hu (idx_range hok hu).2)
  rw [h1, nodeOf_idx hr]

end Go.Proofs.Ytlidakhdcnkabaa

namespace Go.Proofs.Ytlidakhdcnkabaa
open Go.AI

/-- Readings whose values the model's numbers hold. -/
def vOk (t : Tide) : Prop := ∀ x ∈ t.rs, inR x.2

theorem check_v {t : Tide} (h : checkT t = 0) : vOk t := by
  obtain ⟨_, _, _, h3⟩ := checkT_zero h
  intro x hx
  have := (chk_zero _ _ h3 x hx).2
  unfold inR; omega

theorem drop_v {t : Tide} (h : vOk t) (i : Nat) : vOk (dropAt t i) := fun x hx => h x (by
  simp only [dropAt, List.mem_append] at hx
  exact hx.elim List.mem_of_mem_take List.mem_of_mem_drop)

theorem badIx_neg (s : List (Node × Edge)) (t : Tide) : ∀ (l : List (Int × Int)) (k : Nat), badIx s t k l < 0 ↔ ∀ x ∈ l, badAt s t x = false
  | [], _ => by simp [badIx]
  | x :: l, k => by
    unfold badIx
    by_cases h : badAt s t x = true
    · rw [if_pos h]
      constructor
      · intro hh; omega
      · intro hh
        have := hh x List.mem_cons_self
        rw [h] at this; cases this
    · rw [if_neg h, badIx_neg s t l (k + 1)]
      simp only [List.mem_cons, forall_eq_or_imp]
      constructor
      · exact fun hh => ⟨by simpa using h, hh⟩
      · exact fun hh => hh.2

theorem bad_fits {t : Tide} (hv : vOk t) : badIx (solve t) t 0 t.rs < 0 ↔ FitsF t (fun u => (solE t u).w) := by
  rw [badIx_neg]
  constructor
  · intro h x hx
    have := h x hx
    simp only [badAt, bne_eq_false_iff_eq] at this
    exact (wrap_iff (hv x hx)).1 this
  · intro h x hx
    simp only [badAt, bne_eq_false_iff_eq]
    exact (wrap_iff (hv x hx)).2 (h x hx)

theorem rFit_eq (t : Tide) (x : Int × Int) : rFit t x = (IntKind.i64.wrap (at2 t (rSolved t) (sN t x) + at2 t (rSolved t) (mN t x)) == x.2) := by
  simp only [rFit, at2, idx, rS, rM]
  rfl

theorem rFits_fits {t : Tide} (hv : vOk t) : rFits t = true ↔ FitsF t (fun u => at2 t (rSolved t) u) := by
  unfold rFits
  rw [List.all_eq_true]
  constructor
  · intro h x hx
    have := h x hx
    rw [rFit_eq, beq_iff_eq] at this
    exact (wrap_iff (hv x hx)).1 this
  · intro h x hx
    rw [rFit_eq, beq_iff_eq]
    exact (wrap_iff (hv x hx)).2 (h x hx)

theorem same_waves {t : Tide} (hok : rOk t) (hf : FitsF t (fun u => (solE t u).w)) {u : Node} (hu : u ∈ allNodes t) : at2 t (rSolved t) u = (solE t u).w :=
  (solve_asg hok).waves (rSolved_asg hok) hf hu

theorem same_roots {t : Tide} (hok : rOk t) {u : Node} (hu : u ∈ allNodes t) : at1 t (rSolved t) u = idx t (solE t u).root := by
  rw [rSolved_place hok hu, ← (solve_asg hok).roots (rSolved_asg hok) hu]

theorem same_fits {t : Tide} (hok : rOk t) (hv : vOk t) : rFits t = true ↔ badIx (solve t) t 0 t.rs < 0 := by
  rw [bad_fits hv, rFits_fits hv]
  constructor
  · exact fun h => h.congr hok fun u hu => (rSolved_asg hok).waves (solve_asg hok) h hu
  · exact fun h => h.congr hok fun u hu => same_waves hok h hu

theorem fits_same (t : Tide) : (solvedT t).2 = rFitsT t := by
  unfold solvedT rFitsT
  by_cases hc : checkT t = 0
  · have h := same_fits (check_ok hc) (check_v hc)
    simp only [hc, ne_eq, not_true_eq_false, if_false]
    by_cases hb : badIx (solve t) t 0 t.rs < 0
    · rw [if_neg (by omega), if_pos (h.2 hb)]
    · rw [if_pos (by omega), if_neg (fun e => hb (h.1 e))]
  · rw [if_pos hc, if_pos hc]

theorem fits_of {t : Tide} (h : rFitsT t = 0) : rOk t ∧ FitsF t (fun u => (solE t u).w) := by
  obtain ⟨h0, h1⟩ := rFitsT_zero h
  exact ⟨check_ok h0, (bad_fits (check_v h0)).1 ((same_fits (check_ok h0) (check_v h0)).1 h1)⟩

/-! ### Values -/
theorem hour_mem {t : Tide} (hok : rOk t) {h : Int} (hh : 0 ≤ h) : ((0, h.tmod t.sun) : Node) ∈ allNodes t ∧ ((1, h.tmod t.moon) : Node) ∈ allNodes t := by
  obtain ⟨⟨h1, h2⟩, _⟩ := hok
  have e1 : h.tmod t.sun = h % t.sun := Int.tmod_eq_emod_of_nonneg hh
  have e2 : h.tmod t.moon = h % t.moon := Int.tmod_eq_emod_of_nonneg hh
  have a1 := Int.emod_nonneg h (by omega : t.sun ≠ 0)
  have a2 := Int.emod_lt_of_pos h (by omega : 0 < t.sun)
  have b1 := Int.emod_nonneg h (by omega : t.moon ≠ 0)
  have b2 := Int.emod_lt_of_pos h (by omega : 0 < t.moon)
  rw [e1, e2]
  exact ⟨mem_all.2 (.inl ⟨rfl, a1, a2⟩), mem_all.2 (.inr ⟨rfl, b1, b2⟩)⟩

theorem rAt_eq (t : Tide) (h : Int) : rAt t h = IntKind.i64.wrap (at2 t (rSolved t) (0, h.tmod t.sun) + at2 t (rSolved t) (1, h.tmod t.moon)) := rfl
theorem rSame_eq (t : Tide) (h : Int) : rSame t h = (at1 t (rSolved t) (0, h.tmod t.sun) == at1 t (rSolved t) (1, h.tmod t.moon)) := rfl

theorem same_at {t : Tide} (hok : rOk t) (hf : FitsF t (fun u => (solE t u).w)) {h : Int} (hh : 0 ≤ h) : wAt (solve t) t h = rAt t h := by
  obtain ⟨h1, h2⟩ := hour_mem hok hh
  rw [rAt_eq, same_waves hok hf h1, same_waves hok hf h2]
  rfl

theorem same_same {t : Tide} (hok : rOk t) {h : Int} (hh : 0 ≤ h) : sameAt (solve t) t h = rSame t h := by
  obtain ⟨h1, h2⟩ := hour_mem hok hh
  rw [rSame_eq, same_roots hok h1, same_roots hok h2]
  have m1 := (solve_some hok h1).2.2.2
  have m2 := (solve_some hok h2).2.2.2
  show decide ((solE t (0, h.tmod t.sun)).root = (solE t (1, h.tmod t.moon)).root) = _
  by_cases e : (solE t (0, h.tmod t.sun)).root = (solE t (1, h.tmod t.moon)).root
  · rw [decide_eq_true e, e]; simp
  · rw [decide_eq_false e]
    have : ¬ idx t (solE t (0, h.tmod t.sun)).root = idx t (solE t (1, h.tmod t.moon)).root := fun h => e (idx_inj m1 m2 h)
    simpa using this

theorem val_same (t : Tide) (h : Int) : valT t h = rValT t h := by
  unfold valT rValT
  rw [fits_same]
  by_cases hc : rFitsT t = 0
  · obtain ⟨hok, hf⟩ := fits_of hc
    simp only [hc, ne_eq, not_true_eq_false, if_false]
    by_cases hr : 0 ≤ h ∧ h ≤ 100000
    · rw [if_pos hr, if_pos hr, same_same hok hr.1, same_at hok hf hr.1]
    · rw [if_neg hr, if_neg hr]
  · rw [if_pos hc, if_pos hc]

theorem followL_same {t : Tide} (hok : rOk t) (hf : FitsF t (fun u => (solE t u).w)) : ∀ (n : Nat) (h : Int), 0 ≤ h → followL (solve t) t n h = rFollowL t n h
  | 0, _, _ => rfl
  | n + 1, h, hh => by
    simp only [followL, rFollowL]
    rw [same_same hok hh, same_at hok hf hh, followL_same hok hf n (h + 1) (by omega)]

theorem follow_same (t : Tide) (a b : Int) : followT t a b = rFollowT t a b := by
  unfold followT rFollowT
  rw [fits_same]
  by_cases hc : rFitsT t = 0
  · obtain ⟨hok, hf⟩ := fits_of hc
    simp only [hc, ne_eq, not_true_eq_false, if_false]
    by_cases hr : (0 ≤ a ∧ a ≤ b) ∧ b ≤ 100000 ∧ b - a ≤ 1000
    · rw [if_pos hr, if_pos hr, followL_same hok hf _ _ hr.1.1]
    · rw [if_neg hr, if_neg hr]
  · rw [if_pos hc, if_pos hc]

/-! ### Suspects -/
theorem susp_same (t : Tide) : suspT t = rSuspT t := by
  unfold suspT rSuspT
  by_cases hc : checkT t = 0
  · simp only [hc, ne_eq, not_true_eq_false, if_false]
    congr 2
    simp only [suspL, rSuspL]
    congr 1
    refine List.filter_congr fun i _ => ?_
    have h := same_fits (dropAt_ok (check_ok hc) i) (drop_v (check_v hc) i)
    unfold goodAt
    cases hr : rFits (dropAt t i) with
    | true => exact decide_eq_true (h.1 hr)
    | false => exact decide_eq_false fun e => by rw [h.2 e] at hr; cases hr
  · rw [if_pos hc, if_pos hc]

/-! ### Waves -/
theorem all_suns (t : Tide) : (allNodes t).filter (fun n => decide (n.1 = 0)) = (List.range t.sun.toNat).map fun i : Nat => ((0, (i : Int)) : Node) := by
  unfold allNodes
  rw [List.filter_append, List.filter_eq_self.2 (by simp), List.filter_eq_nil_iff.2 (by simp), List.append_nil]
theorem all_moons (t : Tide) : (allNodes t).filter (fun n => !decide (n.1 = 0)) = (List.range t.moon.toNat).map fun i : Nat => ((1, (i : Int)) : Node) := by
  unfold allNodes
  rw [List.filter_append, List.filter_eq_nil_iff.2 (by simp), List.filter_eq_self.2 (by simp), List.nil_append]

theorem waves_same (t : Tide) : wavesT t = rWavesT t := by
  unfold wavesT rWavesT
  rw [fits_same]
  by_cases hc : rFitsT t = 0
  · obtain ⟨hok, hf⟩ := fits_of hc
    obtain ⟨⟨⟨a1, a2⟩, a3, a4⟩, _⟩ := id hok
    obtain ⟨hl1, hl2⟩ := rSolved_len t
    have hsz : rSize t = t.sun.toNat + t.moon.toNat := by unfold rSize; omega
    simp only [hc, ne_eq, not_true_eq_false, if_false]
    have h1 : sunsOf (solve t) (allNodes t) = (rSolved t).2.take t.sun.toNat := by
      unfold sunsOf
      rw [all_suns, List.map_map]
      refine List.ext_getElem (by simp [hl2]; omega) fun i h3 h4 => ?_
      simp only [List.length_map, List.length_range] at h3
      simp only [List.getElem_map, List.getElem_range, Function.comp_apply, List.getElem_take]
      have hu : ((0, (i : Int)) : Node) ∈ allNodes t := mem_all.2 (.inl ⟨rfl, by simp only; omega, by simp only; omega⟩)
      have := same_waves hok hf hu
      have e : at2 t (rSolved t) (0, (i : Int)) = (rSolved t).2[i]'(by omega) := by
        simp only [at2, idx, if_true, Int.toNat_natCast, List.getD_eq_getElem?_getD]
        rw [List.getElem?_eq_getElem (by omega)]; rfl
      rw [← e, this]
      rfl
    have h2 : moonsOf (solve t) (allNodes t) = (rSolved t).2.drop t.sun.toNat := by
      unfold moonsOf
      rw [all_moons, List.map_map]
      refine List.ext_getElem (by simp [hl2]; omega) fun i h3 h4 => ?_
      simp only [List.length_map, List.length_range] at h3
      simp only [List.getElem_map, List.getElem_range, Function.comp_apply, List.getElem_drop]
      have hu : ((1, (i : Int)) : Node) ∈ allNodes t := mem_all.2 (.inr ⟨rfl, by simp only; omega, by simp only; omega⟩)
      have := same_waves hok hf hu
      have e : at2 t (rSolved t) (1, (i : Int)) = (rSolved t).2[t.sun.toNat + i]'(by omega) := by
        have hi : (idx t (1, (i : Int))).toNat = t.sun.toNat + i := by
          simp only [idx]
          rw [if_neg (by decide)]; omega
        simp only [at2, hi, List.getD_eq_getElem?_getD]
        rw [List.getElem?_eq_getElem (by omega)]; rfl
      rw [← e, this]
      rfl
    rw [h1, h2]
  · rw [if_pos hc, if_pos hc]

/-! ### Parts -/
theorem getK_of_mem {κ β : Type} [DecidableEq κ] {k : κ} {b : β} : ∀ {s : List (κ × β)}, (s.map (·.1)).Nodup → (k, b) ∈ s → getK k s = some b
  | [], _, h => by cases h
  | (x, y) :: s, hn, h => by
    simp only [List.map_cons, List.nodup_cons] at hn
    simp only [getK]
    rcases List.mem_cons.1 h with h | h
    · cases h; rw [if_pos rfl]
    · rw [if_neg (fun q : k = x => hn.1 (q ▸ List.mem_map_of_mem (f := (·.1)) h))]
      exact getK_of_mem hn.2 h

theorem solve_keys {t : Tide} (hok : rOk t) : ((solve t).map (·.1)).Perm (allNodes t) := by
  have h := solve_way t hok
  refine (List.perm_ext_iff_of_nodup h.sd (all_nodup t (by have := hok.1.1.1; omega))).2 fun u => ?_
  constructor
  · intro hu
    by_cases hm : u ∈ allNodes t
    · exact hm
    · obtain ⟨⟨k, e⟩, hp, rfl⟩ := List.mem_map.1 hu
      have := getK_of_mem h.sd hp
      rw [h.none _ hm] at this
      cases this
  · intro hu
    obtain ⟨e, he, _⟩ := h.know u hu (h.done u hu)
    exact List.mem_map.2 ⟨(u, e), getK_mem he, rfl⟩

theorem all_places (t : Tide) (h1 : 0 ≤ t.sun) (h2 : 0 ≤ t.moon) : (allNodes t).map (fun u => (idx t u).toNat) = List.range (rSize t) := by
  have hlen : (allNodes t).length = rSize t := by simp only [allNodes, rSize, List.length_append, List.length_map, List.length_range]; omega
  refine List.ext_getElem (by simp [hlen]) fun i h3 h4 => ?_
  simp only [List.getElem_map, List.getElem_range]
  simp only [List.length_map] at h3
  have := all_idx t h1 (List.getElem?_eq_getElem h3)
  omega

theorem parts_same (t : Tide) : partsT t = rPartsT t := by
  unfold partsT rPartsT
  by_cases hc : checkT t = 0
  · have hok := check_ok hc
    have h := solve_way t hok
    simp only [hc, ne_eq, not_true_eq_false, if_false]
    have e1 : (solve t).countP isRoot = ((solve t).map (·.1)).countP fun u => decide ((solE t u).root = u) := by
      rw [List.countP_map]
      refine List.countP_congr fun p hp => ?_
      have hg := getK_of_mem h.sd (k := p.1) (b := p.2) hp
      have he : solE t p.1 = p.2 := by
        show (getK p.1 (roots t (allNodes t) ⟨first (allNodes t), []⟩).sol).getD zeroE = p.2
        rw [hg]; rfl
      simp only [Function.comp_apply, he, isRoot, sameN]
    have e2 : ((solve t).map (·.1)).countP (fun u => decide ((solE t u).root = u)) = (allNodes t).countP fun u => decide ((solE t u).root = u) := (solve_keys hok).countP_eq _
    have e3 : (List.range (rSize t)).countP (rRoot t) = (allNodes t).countP fun u => decide ((solE t u).root = u) := by
      rw [← all_places t (by have := hok.1.1.1; omega) (by have := hok.1.2.1; omega), List.countP_map]
      refine List.countP_congr fun u hu => ?_
      have hi := idx_range hok hu
      have hr : rRoot t (idx t u).toNat = (at1 t (rSolved t) u == idx t u) := by
        have : (((idx t u).toNat : Nat) : Int) = idx t u := by omega
        simp only [rRoot, at1, this]
      simp only [Function.comp_apply, hr, same_roots hok hu, beq_iff_eq, decide_eq_true_eq]
      constructor
      · exact fun e => idx_inj (solve_some hok hu).2.2.2 hu e
      · exact fun e => by rw [e]
    rw [e1, e2, e3]
  · rw [if_pos hc, if_pos hc]

end Go.Proofs.Ytlidakhdcnkabaa
