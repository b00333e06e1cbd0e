/- Whatever is found along readings: roots and waves. Plain law. What the solution finds. Plain law. The solution is an assignment of roots and waves. Plain law. No condition. -/
import Derived.Test.YtlidakhdcnkabaaM17
namespace Go.Proofs.Ytlidakhdcnkabaa
open Go.AI

abbrev sN (t : Tide) (x : Int × Int) : Node := (0, x.1.tmod t.sun)
abbrev mN (t : Tide) (x : Int × Int) : Node := (1, x.1.tmod t.moon)
def eps (u : Node) : Int := if u.1 = 0 then 1 else -1
/-- The same but for whole turns of 64 bits. -/
def eqv (a b : Int) : Prop := (18446744073709551616 : Int) ∣ a - b

theorem wrap_eqv (n : Int) : eqv (IntKind.i64.wrap n) n := by
  unfold eqv
  rw [IntKind.wrap_i64]
  omega
theorem wrap_range (n : Int) : -9223372036854775808 ≤ IntKind.i64.wrap n ∧ IntKind.i64.wrap n ≤ 9223372036854775807 := by
  rw [IntKind.wrap_i64]
  omega
def inR (n : Int) : Prop := -9223372036854775808 ≤ n ∧ n ≤ 9223372036854775807
theorem eqv_eq {a b : Int} (h : eqv a b) (ha : inR a) (hb : inR b) : a = b := by
  unfold eqv at h; unfold inR at ha hb
  omega
theorem wrap_iff {a b : Int} (hb : inR b) : IntKind.i64.wrap a = b ↔ eqv a b := by
  have h1 := wrap_eqv a
  constructor
  · rintro rfl
    unfold eqv at *; omega
  · intro h
    refine eqv_eq ?_ (wrap_range a) hb
    unfold eqv at *; omega

def FitsF (t : Tide) (f : Node → Int) : Prop := ∀ x ∈ t.rs, eqv (f (sN t x) + f (mN t x)) x.2
def Even (t : Tide) (g : Node → Node) : Prop := ∀ x ∈ t.rs, g (sN t x) = g (mN t x)

/-- What is known of a node n of the part r that has the wave w. -/
structure Known (t : Tide) (n r : Node) (w : Int) : Prop where
  f : ∀ f, FitsF t f → eqv (eps n * (w - f n)) (-(eps r * f r))
  g : ∀ g, Even t g → g r = g n
  rng : inR w

theorem eps_s (t : Tide) (x : Int × Int) : eps (sN t x) = 1 := by simp [eps]
theorem eps_m (t : Tide) (x : Int × Int) : eps (mN t x) = -1 := by simp [eps]

theorem Known.root (t : Tide) (n : Node) : Known t n n 0 := by
  refine ⟨fun f _ => ?_, fun _ _ => rfl, by unfold inR; omega⟩
  unfold eqv
  rw [Int.zero_sub, Int.mul_neg, Int.sub_self]
  exact Int.dvd_zero _

theorem Known.moon {t : Tide} {x : Int × Int} (hx : x ∈ t.rs) {r : Node} {w : Int} (h : Known t (sN t x) r w) : Known t (mN t x) r (IntKind.i64.wrap (x.2 - w)) := by
  refine ⟨fun f hf => ?_, fun g hg => (h.g g hg).trans (hg x hx), wrap_range _⟩
  have h1 := h.f f hf
  have h2 := hf x hx
  have h3 := wrap_eqv (x.2 - w)
  rw [eps_s] at h1
  rw [eps_m]
  unfold eqv at *
  generalize eps r * f r = c at *
  generalize IntKind.i64.wrap (x.2 - w) = z at *
  omega

theorem Known.sun {t : Tide} {x : Int × Int} (hx : x ∈ t.rs) {r : Node} {w : Int} (h : Known t (mN t x) r w) : Known t (sN t x) r (IntKind.i64.wrap (x.2 - w)) := by
  refine ⟨fun f hf => ?_, fun g hg => (h.g g hg).trans (hg x hx).symm, wrap_range _⟩
  have h1 := h.f f hf
  have h2 := hf x hx
  have h3 := wrap_eqv (x.2 - w)
  rw [eps_m] at h1
  rw [eps_s]
  unfold eqv at *
  generalize eps r * f r = c at *
  generalize IntKind.i64.wrap (x.2 - w) = z at *
  omega

/-- A node's place among all. -/
def idx (t : Tide) (u : Node) : Int := if u.1 = 0 then u.2 else t.sun + u.2

/-- Roots and waves of all nodes. -/
structure Asg (t : Tide) (r : Node → Node) (w : Node → Int) : Prop where
  even : Even t r
  known : ∀ u ∈ allNodes t, Known t u (r u) (w u)
  low : ∀ u ∈ allNodes t, idx t (r u) ≤ idx t u ∧ r u ∈ allNodes t

theorem mem_all {t : Tide} {u : Node} : u ∈ allNodes t ↔ (u.1 = 0 ∧ 0 ≤ u.2 ∧ u.2 < t.sun) ∨ (u.1 = 1 ∧ 0 ≤ u.2 ∧ u.2 < t.moon) := by
  obtain ⟨a, b⟩ := u
  simp only [allNodes, List.mem_append, List.mem_map, List.mem_range, Prod.mk.injEq]
  constructor
  · rintro (⟨i, hi, rfl, rfl⟩ | ⟨i, hi, rfl, rfl⟩)
    · left; omega
    · right; omega
  · rintro (⟨rfl, h1, h2⟩ | ⟨rfl, h1, h2⟩)
    · left; exact ⟨b.toNat, by omega, rfl, by omega⟩
    · right; exact ⟨b.toNat, by omega, rfl, by omega⟩

theorem idx_inj {t : Tide} {u v : Node} (hu : u ∈ allNodes t) (hv : v ∈ allNodes t) (h : idx t u = idx t v) : u = v := by
  rw [mem_all] at hu hv
  obtain ⟨a, b⟩ := u
  obtain ⟨c, d⟩ := v
  simp only [idx] at *
  simp only [Prod.mk.injEq]
  rcases hu with ⟨rfl, h1, h2⟩ | ⟨rfl, h1, h2⟩ <;> rcases hv with ⟨rfl, h3, h4⟩ | ⟨rfl, h3, h4⟩ <;> simp at h <;> omega

theorem ends_mem {t : Tide} (hok : rOk t) {x : Int × Int} (hx : x ∈ t.rs) : sN t x ∈ allNodes t ∧ mN t x ∈ allNodes t := by
  obtain ⟨⟨h1, h2⟩, h3⟩ := hok
  have h0 := h3 x hx
  have e1 : x.1.tmod t.sun = x.1 % t.sun := Int.tmod_eq_emod_of_nonneg h0
  have e2 : x.1.tmod t.moon = x.1 % t.moon := Int.tmod_eq_emod_of_nonneg h0
  have a1 := Int.emod_nonneg x.1 (by omega : t.sun ≠ 0)
  have a2 := Int.emod_lt_of_pos x.1 (by omega : 0 < t.sun)
  have b1 := Int.emod_nonneg x.1 (by omega : t.moon ≠ 0)
  have b2 := Int.emod_lt_of_pos x.1 (by omega : 0 < t.moon)
  simp only [mem_all, sN, mN, e1, e2]
  exact ⟨.inl ⟨trivial, a1, a2⟩, .inr ⟨trivial, b1, b2⟩⟩

/-- Roots are what they must be. -/
theorem Asg.roots {t : Tide} {r r' : Node → Node} {w w' : Node → Int} (h : Asg t r w) (h' : Asg t r' w') {u : Node} (hu : u ∈ allNodes t) : r u = r' u := by
  have h1 : r' (r u) = r' u := (h.known u hu).g r' h'.even
  have h2 : r (r' u) = r u := (h'.known u hu).g r h.even
  have l1 := (h'.low (r u) (h.low u hu).2).1
  have l2 := (h.low (r' u) (h'.low u hu).2).1
  rw [h1] at l1
  rw [h2] at l2
  exact idx_inj (h.low u hu).2 (h'.low u hu).2 (Int.le_antisymm l2 l1)

theorem Asg.self {t : Tide} {r : Node → Node} {w : Node → Int} (h : Asg t r w) {u : Node} (hu : u ∈ allNodes t) : r (r u) = r u := (h.known u hu).g r h.even

theorem eps_ne (u : Node) : eps u = 1 ∨ eps u = -1 := by unfold eps; split <;> simp

/-- At a root the wave is 0. -/
theorem Asg.zero {t : Tide} {r : Node → Node} {w : Node → Int} (h : Asg t r w) (hf : FitsF t w) {u : Node} (hu : u ∈ allNodes t) : w (r u) = 0 := by
  have h1 := (h.known (r u) (h.low u hu).2).f w hf
  rw [h.self hu, Int.sub_self, Int.mul_zero] at h1
  have h2 := (h.known (r u) (h.low u hu).2).rng
  refine eqv_eq ?_ h2 (by unfold inR; omega)
  unfold eqv at *
  rcases eps_ne (r u) with e | e <;> rw [e] at h1 <;> omega

/-- Where some waves give all readings, all that are found do, and are the same. -/
theorem Asg.waves {t : Tide} {r r' : Node → Node} {w w' : Node → Int} (h : Asg t r w) (h' : Asg t r' w') (hf : FitsF t w) {u : Node} (hu : u ∈ allNodes t) : w' u = w u := by
  have h1 := (h'.known u hu).f w hf
  rw [← h.roots h' hu, h.zero hf hu, Int.mul_zero] at h1
  refine eqv_eq ?_ (h'.known u hu).rng (h.known u hu).rng
  unfold eqv at *
  rcases eps_ne u with e | e <;> rw [e] at h1 <;> omega

theorem FitsF.congr {t : Tide} {f f' : Node → Int} (hok : rOk t) (hf : FitsF t f) (h : ∀ u ∈ allNodes t, f' u = f u) : FitsF t f' := fun x hx => by
  obtain ⟨h1, h2⟩ := ends_mem hok hx
  rw [h _ h1, h _ h2]
  exact hf x hx

end Go.Proofs.Ytlidakhdcnkabaa

namespace Go.Proofs.Ytlidakhdcnkabaa
open Go.AI

section
variable {κ β : Type} [DecidableEq κ]
theorem getK_up (k u : κ) (e : β) : ∀ s : List (κ × β), getK u (upK k e s) = if u = k then some e else getK u s
  | [] => by
    simp only [upK, getK]
  | (x, y) :: s => by
    simp only [upK]
    by_cases h : k = x
    · rw [if_pos h]
      simp only [getK]
      by_cases hu : u = k
      · rw [if_pos hu, if_pos hu]
      · rw [if_neg hu, if_neg hu, if_neg (h ▸ hu)]
    · rw [if_neg h]
      simp only [getK]
      by_cases hx : u = x
      · rw [if_pos hx, if_pos hx, if_neg (fun q : u = k => h (q.symm.trans hx))]
      · rw [if_neg hx, if_neg hx]
        exact getK_up k u e s

theorem getK_del_ne {k u : κ} (h : u ≠ k) : ∀ s : List (κ × β), getK u (delK k s) = getK u s
  | [] => rfl
  | (x, y) :: s => by
    simp only [delK]
    by_cases hk : k = x
    · rw [if_pos hk]
      simp only [getK]
      rw [if_neg (hk ▸ h)]
    · rw [if_neg hk]
      simp only [getK]
      rw [getK_del_ne h s]

theorem getK_none {k : κ} : ∀ {s : List (κ × β)}, k ∉ s.map (·.1) → getK k s = none
  | [], _ => rfl
  | (x, y) :: s, h => by
    simp only [List.map_cons, List.mem_cons, not_or] at h
    simp only [getK]
    rw [if_neg h.1]
    exact getK_none h.2

theorem getK_mem {k : κ} {b : β} : ∀ {s : List (κ × β)}, getK k s = some b → (k, b) ∈ s
  | [], h => by simp [getK] at h
  | (x, y) :: s, h => by
    simp only [getK] at h
    split at h
    · rename_i hk; cases h; subst hk; exact List.mem_cons_self
    · exact List.mem_cons_of_mem _ (getK_mem h)

theorem delK_keys (k : κ) : ∀ s : List (κ × β), ((delK k s).map (·.1)).Sublist (s.map (·.1))
  | [] => .slnil
  | (x, y) :: s => by
    simp only [delK]
    split
    · exact List.sublist_cons_self _ _
    · simp only [List.map_cons]; exact (delK_keys k s).cons_cons x

theorem getK_del_self {k : κ} : ∀ {s : List (κ × β)}, (s.map (·.1)).Nodup → getK k (delK k s) = none
  | [], _ => rfl
  | (x, y) :: s, h => by
    simp only [List.map_cons, List.nodup_cons] at h
    simp only [delK]
    split
    · rename_i hk; subst hk; exact getK_none h.1
    · rename_i hk
      simp only [getK]
      rw [if_neg hk]
      exact getK_del_self h.2

theorem upK_keys (k : κ) (b : β) : ∀ s : List (κ × β), (upK k b s).map (·.1) = s.map (·.1) ∨ ((upK k b s).map (·.1) = s.map (·.1) ++ [k] ∧ k ∉ s.map (·.1))
  | [] => .inr ⟨rfl, by simp⟩
  | (x, y) :: s => by
    simp only [upK]
    split
    · rename_i hk; subst hk; exact .inl rfl
    · rename_i hk
      rcases upK_keys k b s with h | ⟨h, hn⟩
      · exact .inl (by simp [h])
      · exact .inr ⟨by simp [h], by simp only [List.map_cons, List.mem_cons, not_or]; exact ⟨hk, hn⟩⟩

theorem upK_nodup (k : κ) (b : β) (s : List (κ × β)) (h : (s.map (·.1)).Nodup) : ((upK k b s).map (·.1)).Nodup := by
  rcases upK_keys k b s with h1 | ⟨h1, hn⟩
  · rw [h1]; exact h
  · rw [h1]
    rw [List.nodup_append]
    exact ⟨h, by simp, fun a ha b hb => by simp only [List.mem_singleton] at hb; subst hb; exact fun e => hn (e ▸ ha)⟩
end

def Found.nd (v : Found) : Prop := (v.todo.map (·.1)).Nodup
def Found.sd (v : Found) : Prop := (v.sol.map (·.1)).Nodup

def Closed (t : Tide) (n : Node) (v : Found) : Prop := ∀ x ∈ t.rs, (sN t x = n → v.has (mN t x) = false) ∧ (mN t x = n → v.has (sN t x) = false)

/-- From v to v' nodes of the part r have been reached, with all that hangs on them. -/
structure Walk (t : Tide) (r : Node) (v v' : Found) : Prop where
  nd : v.nd → v'.nd
  sd : v.sd → v'.sd
  len : v'.todo.length ≤ v.todo.length
  sub : ∀ u, v'.has u = true → v.has u = true
  old : ∀ u, v.has u = false ∨ v'.has u = true → getK u v'.sol = getK u v.sol
  new : ∀ u, v.has u = true → v'.has u = false → ∃ e, getK u v'.sol = some e ∧ e.root = r ∧ Known t u r e.w
  closed : ∀ u, v.has u = true → v'.has u = false → Closed t u v'

theorem Walk.refl (t : Tide) (r : Node) (v : Found) : Walk t r v v :=
  ⟨id, id, Nat.le_refl _, fun _ h => h, fun _ _ => rfl, fun u h h' => by (rw [h] at h'; cases h'), fun u h h' => by (rw [h] at h'; cases h')⟩

theorem Walk.not {t : Tide} {r : Node} {v v' : Found} (h : Walk t r v v') {u : Node} (hu : v.has u = false) : v'.has u = false := by
  cases hh : v'.has u with
  | false => rfl
  | true => rw [h.sub u hh] at hu; cases hu

theorem Walk.trans {t : Tide} {r : Node} {a b c : Found} (h : Walk t r a b) (h' : Walk t r b c) : Walk t r a c := by
  refine ⟨fun x => h'.nd (h.nd x), fun x => h'.sd (h.sd x), Nat.le_trans h'.len h.len, fun u hu => h.sub u (h'.sub u hu), fun u hu => ?_, fun u h1 h2 => ?_, fun u h1 h2 => ?_⟩
  · rcases hu with hu | hu
    · rw [h'.old u (.inl (h.not hu)), h.old u (.inl hu)]
    · rw [h'.old u (.inr hu), h.old u (.inr (h'.sub u hu))]
  · cases hb : b.has u with
    | true => exact h'.new u hb h2
    | false =>
      obtain ⟨e, h3, h4, h5⟩ := h.new u h1 hb
      exact ⟨e, by rw [h'.old u (.inl hb)]; exact h3, h4, h5⟩
  · cases hb : b.has u with
    | true => exact h'.closed u hb h2
    | false => exact fun x hx => ⟨fun e => h'.not ((h.closed u h1 hb x hx).1 e), fun e => h'.not ((h.closed u h1 hb x hx).2 e)⟩

/-- A visit that keeps its word. -/
def Goes (t : Tide) (r : Node) (k : Nat) (go : Node → Edge → Found → Found) : Prop :=
  ∀ n e v, v.nd → v.todo.length ≤ k → v.has n = true → e.root = r → Known t n r e.w → Walk t r v (go n e v) ∧ (go n e v).has n = false

theorem along_walk {t : Tide} {r : Node} {k : Nat} {go : Node → Edge → Found → Found} (hgo : Goes t r k go) {n : Node} {e : Edge} (her : e.root = r) (hk : Known t n r e.w) : ∀ (l : List (Int × Int)) (i : Nat) (v : Found), (∀ x ∈ l, x ∈ t.rs) → v.nd → v.todo.length ≤ k →
    Walk t r v (along t go n e i l v) ∧ ∀ x ∈ l, (sN t x = n → (along t go n e i l v).has (mN t x) = false) ∧ (mN t x = n → (along t go n e i l v).has (sN t x) = false)
  | [], _, v, _, _, _ => ⟨.refl t r v, by simp⟩
  | x :: l, i, v, hl, hnd, hlen => by
    have hx := hl x List.mem_cons_self
    have step : ∃ v1, v1 = (if n = (0, x.1.tmod t.sun) ∧ v.has (1, x.1.tmod t.moon) = true then go (1, x.1.tmod t.moon) ⟨e.root, IntKind.i64.wrap (x.2 - e.w), i, n⟩ v
       else if n = (1, x.1.tmod t.moon) ∧ v.has (0, x.1.tmod t.sun) = true then go (0, x.1.tmod t.sun) ⟨e.root, IntKind.i64.wrap (x.2 - e.w), i, n⟩ v
       else v) ∧ Walk t r v v1 ∧ (sN t x = n → v1.has (mN t x) = false) ∧ (mN t x = n → v1.has (sN t x) = false) := by
      refine ⟨_, rfl, ?_⟩
      split
      · rename_i h
        obtain ⟨h1, h2⟩ := h
        obtain ⟨w1, w2⟩ := hgo (1, x.1.tmod t.moon) ⟨e.root, IntKind.i64.wrap (x.2 - e.w), i, n⟩ v hnd hlen h2 her (by rw [h1] at hk; exact hk.moon hx)
        exact ⟨w1, fun _ => w2, fun h => by rw [← h] at h1; simp at h1⟩
      · rename_i h
        split
        · rename_i h'
          obtain ⟨h1, h2⟩ := h'
          obtain ⟨w1, w2⟩ := hgo (0, x.1.tmod t.sun) ⟨e.root, IntKind.i64.wrap (x.2 - e.w), i, n⟩ v hnd hlen h2 her (by rw [h1] at hk; exact hk.sun hx)
          exact ⟨w1, fun h => by rw [← h] at h1; simp at h1, fun _ => w2⟩
        · rename_i h'
          refine ⟨.refl t r v, fun hn => ?_, fun hn => ?_⟩
          · cases hh : v.has (mN t x) with
            | false => rfl
            | true => exact absurd ⟨hn.symm, hh⟩ h
          · cases hh : v.has (sN t x) with
            | false => rfl
            | true => exact absurd ⟨hn.symm, hh⟩ h'
    obtain ⟨v1, hv1, w1, c1, c2⟩ := step
    obtain ⟨w2, c3⟩ := along_walk hgo her hk l (i + 1) v1 (fun y hy => hl y (List.mem_cons_of_mem _ hy)) (w1.nd hnd) (Nat.le_trans w1.len hlen)
    unfold along
    rw [← hv1]
    refine ⟨w1.trans w2, fun y hy => ?_⟩
    rcases List.mem_cons.1 hy with rfl | hy
    · exact ⟨fun h => w2.not (c1 h), fun h => w2.not (c2 h)⟩
    · exact c3 y hy

theorem has_del_ne {v : Found} {n u : Node} (s : List (Node × Edge)) (h : u ≠ n) : Found.has ⟨delK n v.todo, s⟩ u = v.has u := by
  unfold Found.has
  rw [getK_del_ne h]

theorem has_del_self {v : Found} {n : Node} (s : List (Node × Edge)) (h : v.nd) : Found.has ⟨delK n v.todo, s⟩ n = false := by
  unfold Found.has
  rw [getK_del_self h]
  rfl

theorem visit_goes (t : Tide) (r : Node) : ∀ k, Goes t r k (visit t k)
  | 0 => fun n e v _ hlen hhas _ _ => by
    have := delK_len (has_some hhas)
    omega
  | k + 1 => fun n e v hnd hlen hhas her hk => by
    have hdl := delK_len (has_some hhas)
    obtain ⟨v0, hv0⟩ : ∃ v0 : Found, v0 = ⟨delK n v.todo, upK n e v.sol⟩ := ⟨_, rfl⟩
    have hnd0 : v0.nd := by rw [hv0]; exact hnd.sublist (delK_keys n v.todo)
    have hn0 : v0.has n = false := by rw [hv0]; exact has_del_self _ hnd
    have hne : ∀ u, u ≠ n → v0.has u = v.has u := fun u h => by rw [hv0]; exact has_del_ne _ h
    have hs0 : ∀ u, getK u v0.sol = if u = n then some e else getK u v.sol := fun u => by rw [hv0]; exact getK_up n u e v.sol
    obtain ⟨w1, c1⟩ := along_walk (visit_goes t r k) her hk t.rs 0 v0 (fun _ h => h) hnd0 (by rw [hv0]; simp only; omega)
    have hvis : visit t (k + 1) n e v = along t (visit t k) n e 0 t.rs v0 := by rw [hv0]; rfl
    rw [hvis]
    generalize along t (visit t k) n e 0 t.rs v0 = v1 at *
    have hn1 : v1.has n = false := w1.not hn0
    refine ⟨⟨fun _ => w1.nd hnd0, fun hs => w1.sd (by rw [hv0]; exact upK_nodup n e v.sol hs), ?_, fun u hu => ?_, fun u hu => ?_, fun u h1 h2 => ?_, fun u h1 h2 => ?_⟩, hn1⟩
    · refine Nat.le_trans w1.len ?_
      rw [hv0]; simp only; omega
    · have hun : u ≠ n := fun h => by rw [h, hn1] at hu; cases hu
      rw [← hne u hun]
      exact w1.sub u hu
    · have hun : u ≠ n := fun h => by
        subst h
        rcases hu with hu | hu
        · rw [hhas] at hu; cases hu
        · rw [hn1] at hu; cases hu
      rw [w1.old u (hu.imp (fun h => by rw [hne u hun]; exact h) id), hs0, if_neg hun]
    · by_cases hun : u = n
      · subst hun
        exact ⟨e, by rw [w1.old u (.inl hn0), hs0, if_pos rfl], her, hk⟩
      · exact w1.new u (by rw [hne u hun]; exact h1) h2
    · by_cases hun : u = n
      · subst hun; exact c1
      · exact w1.closed u (by rw [hne u hun]; exact h1) h2

end Go.Proofs.Ytlidakhdcnkabaa

namespace Go.Proofs.Ytlidakhdcnkabaa
open Go.AI

theorem all_idx (t : Tide) (h1 : 0 ≤ t.sun) {i : Nat} {u : Node} (h : (allNodes t)[i]? = some u) : idx t u = i := by
  simp only [allNodes] at h
  by_cases hi : i < t.sun.toNat
  · rw [List.getElem?_append_left (by simpa using hi)] at h
    simp only [List.getElem?_map, List.getElem?_range hi, Option.map_some, Option.some.injEq] at h
    subst h
    simp [idx]
  · rw [List.getElem?_append_right (by simp; omega)] at h
    simp only [List.length_map, List.length_range, List.getElem?_map, Option.map_eq_some_iff] at h
    obtain ⟨a, ha, rfl⟩ := h
    have := (List.getElem?_eq_some_iff.1 ha)
    obtain ⟨h2, h3⟩ := this
    simp only [List.getElem_range] at h3
    simp only [idx]
    rw [if_neg (by decide)]
    omega

theorem all_nodup (t : Tide) (h1 : 0 ≤ t.sun) : (allNodes t).Nodup := by
  rw [List.nodup_iff_pairwise_ne, List.pairwise_iff_getElem]
  intro i j hi hj hij he
  have a := all_idx t h1 (List.getElem?_eq_getElem hi)
  have b := all_idx t h1 (List.getElem?_eq_getElem hj)
  rw [he, b] at a
  omega

theorem getK_first (u : Node) (l : List Node) : getK u (first l) = if u ∈ l then some true else none := by
  have key : ∀ (l : List Node) (s : List (Node × Bool)), getK u (l.foldl (fun s n => upK n true s) s) = if u ∈ l then some true else getK u s := by
    intro l
    induction l with
    | nil => intro s; simp
    | cons n l ih =>
      intro s
      rw [List.foldl_cons, ih, getK_up]
      by_cases h : u ∈ l
      · simp [h]
      · by_cases h2 : u = n
        · simp [h2]
        · simp [h, h2]
  have := key l []
  simpa [first, getK] using this

theorem first_nd (l : List Node) : ((first l).map (·.1)).Nodup := by
  have key : ∀ (l : List Node) (s : List (Node × Bool)), (s.map (·.1)).Nodup → ((l.foldl (fun s n => upK n true s) s).map (·.1)).Nodup := by
    intro l
    induction l with
    | nil => exact fun _ h => h
    | cons n l ih => exact fun s h => ih _ (upK_nodup n true s h)
  exact key l [] (by simp)

/-- On the way through the roots. -/
structure OnWay (t : Tide) (pre : List Node) (v : Found) : Prop where
  nd : v.nd
  sd : v.sd
  len : v.todo.length ≤ 60
  done : ∀ u ∈ pre, v.has u = false
  know : ∀ u ∈ allNodes t, v.has u = false → ∃ e, getK u v.sol = some e ∧ Known t u e.root e.w ∧ idx t e.root ≤ idx t u ∧ e.root ∈ allNodes t
  left : ∀ u, v.has u = true → u ∈ allNodes t
  none : ∀ u, u ∉ allNodes t → getK u v.sol = none
  pair : ∀ x ∈ t.rs, v.has (sN t x) = v.has (mN t x) ∧ (v.has (sN t x) = false → ((getK (sN t x) v.sol).getD zeroE).root = ((getK (mN t x) v.sol).getD zeroE).root)

theorem roots_way (t : Tide) (hok : rOk t) : ∀ (l pre : List Node) (v : Found), allNodes t = pre ++ l → OnWay t pre v → OnWay t (allNodes t) (roots t l v)
  | [], pre, v, hp, h => by
    rw [List.append_nil] at hp
    rw [hp]; exact h
  | n :: l, pre, v, hp, h => by
    have hp' : allNodes t = (pre ++ [n]) ++ l := by rw [hp]; simp
    unfold roots
    refine roots_way t hok l (pre ++ [n]) _ hp' ?_
    have hsun : 0 ≤ t.sun := by have := hok.1.1.1; omega
    have hn : n ∈ allNodes t := by rw [hp]; simp
    by_cases hh : v.has n = true
    · rw [if_pos hh]
      obtain ⟨w, hnn⟩ := visit_goes t n 60 n ⟨n, 0, -1, n⟩ v h.nd h.len hh rfl (Known.root t n)
      generalize visit t 60 n ⟨n, 0, -1, n⟩ v = v' at *
      have hlow : ∀ u, v.has u = true → idx t n ≤ idx t u := by
        intro u hu
        have hua := h.left u hu
        have hup : u ∉ pre := fun hm => by rw [h.done u hm] at hu; cases hu
        rw [hp] at hua
        have hul : u ∈ n :: l := (List.mem_append.1 hua).resolve_left hup
        obtain ⟨i, hi⟩ := List.getElem?_of_mem hul
        have e1 : (allNodes t)[pre.length]? = some n := by rw [hp]; simp
        have e2 : (allNodes t)[pre.length + i]? = some u := by rw [hp, List.getElem?_append_right (by omega)]; simpa using hi
        rw [all_idx t hsun e1, all_idx t hsun e2]
        omega
      refine ⟨w.nd h.nd, w.sd h.sd, Nat.le_trans w.len h.len, fun u hu => ?_, fun u hu hf => ?_, fun u hu => h.left u (w.sub u hu), fun u hu => ?_, fun x hx => ?_⟩
      · rcases List.mem_append.1 hu with hu | hu
        · exact w.not (h.done u hu)
        · simp only [List.mem_singleton] at hu; subst hu; exact hnn
      · cases hv : v.has u with
        | false =>
          obtain ⟨e, h1, h2⟩ := h.know u hu hv
          exact ⟨e, by rw [w.old u (.inl hv)]; exact h1, h2⟩
        | true =>
          obtain ⟨e, h1, h2, h3⟩ := w.new u hv hf
          exact ⟨e, h1, by rw [h2]; exact h3, by rw [h2]; exact hlow u hv, by rw [h2]; exact hn⟩
      · have hv : v.has u = false := by
          cases hv : v.has u with
          | false => rfl
          | true => exact absurd (h.left u hv) hu
        rw [w.old u (.inl hv)]
        exact h.none u hu
      · obtain ⟨h1, h2⟩ := h.pair x hx
        cases hv : v.has (sN t x) with
        | false =>
          have hm : v.has (mN t x) = false := by rw [← h1]; exact hv
          refine ⟨by rw [w.not hv, w.not hm], fun _ => ?_⟩
          rw [w.old _ (.inl hv), w.old _ (.inl hm)]
          exact h2 hv
        | true =>
          have hm : v.has (mN t x) = true := by rw [← h1]; exact hv
          have heq : v'.has (sN t x) = v'.has (mN t x) := by
            cases a : v'.has (sN t x) with
            | false => exact ((w.closed _ hv a x hx).1 rfl).symm
            | true =>
              cases b : v'.has (mN t x) with
              | true => rfl
              | false => rw [(w.closed _ hm b x hx).2 rfl] at a; cases a
          refine ⟨heq, fun hf => ?_⟩
          obtain ⟨e, g1, g2, _⟩ := w.new _ hv hf
          obtain ⟨e', g1', g2', _⟩ := w.new _ hm (by rw [← heq]; exact hf)
          rw [g1, g1']
          simp only [Option.getD_some]
          rw [g2, g2']
    · rw [if_neg hh]
      have hf : v.has n = false := by simpa using hh
      refine ⟨h.nd, h.sd, h.len, fun u hu => ?_, h.know, h.left, h.none, h.pair⟩
      rcases List.mem_append.1 hu with hu | hu
      · exact h.done u hu
      · simp only [List.mem_singleton] at hu; subst hu; exact hf

theorem start_way (t : Tide) (hok : rOk t) : OnWay t [] ⟨first (allNodes t), []⟩ := by
  have hh : ∀ u, Found.has ⟨first (allNodes t), []⟩ u = decide (u ∈ allNodes t) := by
    intro u
    simp only [Found.has, getK_first]
    by_cases h : u ∈ allNodes t <;> simp [h]
  refine ⟨first_nd _, by simp [Found.sd], Nat.le_trans (first_len _) (all_nodes_len t hok.1.1.2 hok.1.2.2), by simp, fun u hu hf => ?_, fun u hu => ?_, fun u _ => rfl, fun x hx => ?_⟩
  · rw [hh, decide_eq_true hu] at hf; cases hf
  · rw [hh] at hu; exact of_decide_eq_true hu
  · obtain ⟨h1, h2⟩ := ends_mem hok hx
    rw [hh, hh, decide_eq_true h1, decide_eq_true h2]
    exact ⟨rfl, fun h => by cases h⟩

theorem solve_way (t : Tide) (hok : rOk t) : OnWay t (allNodes t) (roots t (allNodes t) ⟨first (allNodes t), []⟩) :=
  roots_way t hok (allNodes t) [] _ rfl (start_way t hok)

def solE (t : Tide) (u : Node) : Edge := (getK u (solve t)).getD zeroE

theorem solve_some {t : Tide} (hok : rOk t) {u : Node} (hu : u ∈ allNodes t) : getK u (solve t) = some (solE t u) ∧ Known t u (solE t u).root (solE t u).w ∧ idx t (solE t u).root ≤ idx t u ∧ (solE t u).root ∈ allNodes t := by
  have h := solve_way t hok
  obtain ⟨e, h1, h2, h3, h4⟩ := h.know u hu (h.done u hu)
  have he : solE t u = e := by
    show (getK u (roots t (allNodes t) ⟨first (allNodes t), []⟩).sol).getD zeroE = e
    rw [h1]; rfl
  rw [he]
  exact ⟨h1, h2, h3, h4⟩

theorem solve_asg {t : Tide} (hok : rOk t) : Asg t (fun u => (solE t u).root) (fun u => (solE t u).w) := by
  have h := solve_way t hok
  refine ⟨fun x hx => ?_, fun u hu => (solve_some hok hu).2.1, fun u hu => (solve_some hok hu).2.2⟩
  exact (h.pair x hx).2 (h.done _ (ends_mem hok hx).1)

end Go.Proofs.Ytlidakhdcnkabaa
