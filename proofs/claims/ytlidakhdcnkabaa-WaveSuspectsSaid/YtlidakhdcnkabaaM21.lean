/- How a solution is built: each node hangs on one that was laid before. Plain law. Ways to a root; what they have in common. Plain law. A ring that contradicts itself is one; both ways of looking at a ring agree. Plain law. No condition. -/
import Derived.Test.YtlidakhdcnkabaaM19
namespace Go.Proofs.Ytlidakhdcnkabaa
open Go.AI

/-- An edge that may be laid for n on what s knows. -/
def Good (t : Tide) (s : List (Node × Edge)) (n : Node) (e : Edge) : Prop :=
  (e.r < 0 ∧ e.root = n) ∨ ∃ e', getK e.from_ s = some e' ∧ ∃ (i : Nat) (x : Int × Int), e.r = i ∧ t.rs[i]? = some x ∧ ((n = sN t x ∧ e.from_ = mN t x) ∨ (n = mN t x ∧ e.from_ = sN t x)) ∧ e.w = IntKind.i64.wrap (x.2 - e'.w) ∧ e.root = e'.root

inductive Built (t : Tide) : List (Node × Edge) → Prop
  | nil : Built t []
  | snoc (s : List (Node × Edge)) (n : Node) (e : Edge) : Built t s → getK n s = none → Good t s n e → Built t (s ++ [(n, e)])

theorem upK_new {κ β : Type} [DecidableEq κ] (k : κ) (b : β) : ∀ {s : List (κ × β)}, getK k s = none → upK k b s = s ++ [(k, b)]
  | [], _ => rfl
  | (x, y) :: s, h => by
    simp only [getK] at h
    split at h
    · cases h
    · rename_i hk
      simp only [upK]
      rw [if_neg hk, upK_new k b h]
      rfl

structure Laid (t : Tide) (v : Found) : Prop where
  nd : v.nd
  built : Built t v.sol
  out : ∀ u, v.has u = true → getK u v.sol = none
  len : v.todo.length + v.sol.length ≤ 60

def Lays (t : Tide) (go : Node → Edge → Found → Found) : Prop :=
  ∀ n e v, Laid t v → v.has n = true → Good t v.sol n e → Laid t (go n e v) ∧ ∀ u a, getK u v.sol = some a → getK u (go n e v).sol = some a

theorem along_lays {t : Tide} {go : Node → Edge → Found → Found} (hgo : Lays t go) {n : Node} {e : Edge} : ∀ (l : List (Int × Int)) (i : Nat) (v : Found), t.rs.drop i = l → Laid t v → getK n v.sol = some e →
    Laid t (along t go n e i l v) ∧ ∀ u a, getK u v.sol = some a → getK u (along t go n e i l v).sol = some a
  | [], _, v, _, h, _ => ⟨h, fun _ _ h => h⟩
  | x :: l, i, v, hl, hv, hn => by
    have hx : t.rs[i]? = some x := by
      have h1 : (t.rs.drop i)[0]? = some x := by rw [hl]; rfl
      rw [List.getElem?_drop] at h1
      exact h1
    have hl' : t.rs.drop (i + 1) = l := by rw [← List.drop_drop, hl]; rfl
    have step : ∃ v1, v1 = (if n = (0, x.1.tmod t.sun) ∧ v.has (1, x.1.tmod t.moon) = true then go (1, x.1.tmod t.moon) ⟨e.root, IntKind.i64.wrap (x.2 - e.w), i, n⟩ v
       else if n = (1, x.1.tmod t.moon) ∧ v.has (0, x.1.tmod t.sun) = true then go (0, x.1.tmod t.sun) ⟨e.root, IntKind.i64.wrap (x.2 - e.w), i, n⟩ v
       else v) ∧ Laid t v1 ∧ ∀ u a, getK u v.sol = some a → getK u v1.sol = some a := by
      refine ⟨_, rfl, ?_⟩
      split
      · rename_i h
        exact hgo _ _ v hv h.2 (.inr ⟨e, hn, i, x, rfl, hx, .inr ⟨rfl, h.1⟩, rfl, rfl⟩)
      · split
        · rename_i h
          exact hgo _ _ v hv h.2 (.inr ⟨e, hn, i, x, rfl, hx, .inl ⟨rfl, h.1⟩, rfl, rfl⟩)
        · exact ⟨hv, fun _ _ h => h⟩
    obtain ⟨v1, hv1, w1, g1⟩ := step
    obtain ⟨w2, g2⟩ := along_lays hgo l (i + 1) v1 hl' w1 (g1 n e hn)
    unfold along
    rw [← hv1]
    exact ⟨w2, fun u a h => g2 u a (g1 u a h)⟩

theorem visit_lays (t : Tide) : ∀ k, Lays t (visit t k)
  | 0 => fun _ _ _ h _ _ => ⟨h, fun _ _ h => h⟩
  | k + 1 => fun n e v hv hhas hg => by
    have hdl := delK_len (has_some hhas)
    have hno := hv.out n hhas
    have hup := upK_new n e hno
    have h0 : Laid t ⟨delK n v.todo, upK n e v.sol⟩ := by
      refine ⟨hv.nd.sublist (delK_keys n v.todo), by rw [hup]; exact .snoc _ _ _ hv.built hno hg, fun u hu => ?_, ?_⟩
      · have hun : u ≠ n := fun h => by
          rw [h, has_del_self _ hv.nd] at hu; cases hu
        rw [has_del_ne _ hun] at hu
        show getK u (upK n e v.sol) = none
        rw [getK_up, if_neg hun]
        exact hv.out u hu
      · have := hv.len
        simp only [hup, List.length_append, List.length_singleton]
        omega
    obtain ⟨w, g⟩ := along_lays (visit_lays t k) t.rs 0 ⟨delK n v.todo, upK n e v.sol⟩ rfl h0 (by
      show getK n (upK n e v.sol) = some e
      rw [getK_up, if_pos rfl])
    refine ⟨w, fun u a h => g u a ?_⟩
    show getK u (upK n e v.sol) = some a
    rw [getK_up, if_neg (fun q => by rw [q, hno] at h; cases h)]
    exact h

theorem roots_lays (t : Tide) : ∀ (l : List Node) (v : Found), Laid t v → Laid t (roots t l v)
  | [], _, h => h
  | n :: l, v, h => by
    unfold roots
    refine roots_lays t l _ ?_
    split
    · rename_i hh
      exact (visit_lays t 60 n ⟨n, 0, -1, n⟩ v h hh (.inl ⟨by simp, rfl⟩)).1
    · exact h

theorem solve_built {t : Tide} (hok : rOk t) : Built t (solve t) ∧ (solve t).length ≤ 60 := by
  have h := roots_lays t (allNodes t) ⟨first (allNodes t), []⟩ ⟨first_nd _, .nil, fun _ _ => rfl, by
    have := Nat.le_trans (first_len (allNodes t)) (all_nodes_len t hok.1.1.2 hok.1.2.2)
    simpa using this⟩
  exact ⟨h.built, Nat.le_trans (Nat.le_add_left _ _) h.len⟩

/-- Each node's place in the order in which they were laid. -/
theorem built_rank {t : Tide} {s : List (Node × Edge)} (h : Built t s) : ∃ rk : Node → Nat, ∀ u e, getK u s = some e → rk u < s.length ∧
    ((e.r < 0 ∧ e.root = u) ∨ ∃ e', getK e.from_ s = some e' ∧ rk e.from_ < rk u ∧ ∃ (i : Nat) (x : Int × Int), e.r = i ∧ t.rs[i]? = some x ∧ ((u = sN t x ∧ e.from_ = mN t x) ∨ (u = mN t x ∧ e.from_ = sN t x)) ∧ e.w = IntKind.i64.wrap (x.2 - e'.w) ∧ e.root = e'.root) := by
  induction h with
  | nil => exact ⟨fun _ => 0, fun u e h => by simp [getK] at h⟩
  | snoc s n e hs hno hg ih =>
    obtain ⟨rk, hrk⟩ := ih
    have hget : ∀ u, getK u (s ++ [(n, e)]) = if u = n then some e else getK u s := fun u => by rw [← upK_new n e hno, getK_up]
    have old : ∀ u a, getK u s = some a → u ≠ n := fun u a h q => by rw [q, hno] at h; cases h
    refine ⟨fun u => if u = n then s.length else rk u, fun u a hu => ?_⟩
    rw [hget] at hu
    simp only [List.length_append, List.length_singleton]
    by_cases hun : u = n
    · rw [if_pos hun] at hu
      simp only [Option.some.injEq] at hu
      subst hu; subst hun
      refine ⟨by rw [if_pos rfl]; omega, ?_⟩
      rcases hg with hg | ⟨e', h1, h2⟩
      · exact .inl hg
      · have hne := old _ _ h1
        exact .inr ⟨e', by rw [hget, if_neg hne]; exact h1, by rw [if_neg hne, if_pos rfl]; exact (hrk _ _ h1).1, h2⟩
    · rw [if_neg hun] at hu
      obtain ⟨h1, h2⟩ := hrk u a hu
      refine ⟨by rw [if_neg hun]; omega, ?_⟩
      rcases h2 with h2 | ⟨e', h3, h4, h5⟩
      · exact .inl h2
      · have hne := old _ _ h3
        exact .inr ⟨e', by rw [hget, if_neg hne]; exact h3, by rw [if_neg hne, if_neg hun]; exact h4, h5⟩

end Go.Proofs.Ytlidakhdcnkabaa

namespace Go.Proofs.Ytlidakhdcnkabaa
open Go.AI

/-- Where a node hangs. -/
structure Tree (t : Tide) (rk : Node → Nat) : Prop where
  low : ∀ u ∈ allNodes t, rk u < 60
  up : ∀ u ∈ allNodes t, ((solE t u).r < 0 ∧ (solE t u).root = u) ∨ ((solE t u).from_ ∈ allNodes t ∧ rk (solE t u).from_ < rk u ∧ (solE t u).root = (solE t (solE t u).from_).root ∧ ∃ (i : Nat) (x : Int × Int), (solE t u).r = i ∧ t.rs[i]? = some x ∧
    ((u = sN t x ∧ (solE t u).from_ = mN t x) ∨ (u = mN t x ∧ (solE t u).from_ = sN t x)) ∧ (solE t u).w = IntKind.i64.wrap (x.2 - (solE t (solE t u).from_).w))

theorem solve_tree {t : Tide} (hok : rOk t) : ∃ rk, Tree t rk := by
  obtain ⟨hb, hlen⟩ := solve_built hok
  obtain ⟨rk, hrk⟩ := built_rank hb
  refine ⟨rk, fun u hu => ?_, fun u hu => ?_⟩
  · have := (hrk u _ (solve_some hok hu).1).1
    omega
  · obtain ⟨_, h⟩ := hrk u _ (solve_some hok hu).1
    rcases h with h | ⟨e', h1, h2, i, x, h3, h4, h5, h6, h7⟩
    · exact .inl h
    · have he : solE t (solE t u).from_ = e' := by
        show (getK (solE t u).from_ (solve t)).getD zeroE = e'
        rw [h1]; rfl
      obtain ⟨m1, m2⟩ := ends_mem hok (List.mem_of_getElem? h4)
      refine .inr ⟨?_, h2, by rw [he]; exact h7, i, x, h3, h4, h5, by rw [he]; exact h6⟩
      rcases h5 with ⟨_, h5⟩ | ⟨_, h5⟩
      · rw [h5]; exact m2
      · rw [h5]; exact m1

inductive Way (t : Tide) : Node → List Int → Node → Prop
  | nil (n : Node) : Way t n [] n
  | cons (n : Node) (l : List Int) (c : Node) : 0 ≤ (solE t n).r → Way t (solE t n).from_ l c → Way t n ((solE t n).r :: l) c

section
variable {t : Tide} {rk : Node → Nat}

theorem way_some (h : Tree t rk) : ∀ (f : Nat) (u : Node), u ∈ allNodes t → rk u < f → ∃ l, wayL (solve t) f u = some l ∧ Way t u l (solE t u).root
  | 0, _, _, hf => by omega
  | f + 1, u, hu, hf => by
    have hE : (getK u (solve t)).getD zeroE = solE t u := rfl
    unfold wayL
    rw [hE]
    rcases h.up u hu with ⟨h1, h2⟩ | ⟨h1, h2, h3, i, x, h4, _⟩
    · rw [if_neg (by omega)]
      exact ⟨[], rfl, by rw [h2]; exact .nil u⟩
    · rw [if_pos (by omega)]
      obtain ⟨l, h5, h6⟩ := way_some h f _ h1 (by omega)
      rw [h5, h3]
      exact ⟨_, rfl, .cons _ _ _ (by omega) h6⟩

/-- The nodes of a way but its end. -/
def trail (t : Tide) : Node → List Int → List Node
  | _, [] => []
  | n, _ :: l => n :: trail t (solE t n).from_ l

theorem trail_len : ∀ (l : List Int) (n : Node), (trail t n l).length = l.length
  | [], _ => rfl
  | _ :: l, n => by simp [trail, trail_len l]

theorem Way.from_mem (h : Tree t rk) {n : Node} (hn : n ∈ allNodes t) (h0 : 0 ≤ (solE t n).r) : (solE t n).from_ ∈ allNodes t ∧ rk (solE t n).from_ < rk n := by
  rcases h.up n hn with ⟨h1, _⟩ | ⟨h1, h2, _⟩
  · omega
  · exact ⟨h1, h2⟩

theorem Way.end_mem (h : Tree t rk) {n c : Node} {l : List Int} (hw : Way t n l c) : n ∈ allNodes t → c ∈ allNodes t ∧ rk c ≤ rk n := by
  induction hw with
  | nil n => exact fun hn => ⟨hn, Nat.le_refl _⟩
  | cons n l c h0 _ ih =>
    intro hn
    obtain ⟨h1, h2⟩ := Way.from_mem h hn h0
    obtain ⟨h3, h4⟩ := ih h1
    exact ⟨h3, by omega⟩

theorem Way.trail_rank (h : Tree t rk) {n c : Node} {l : List Int} (hw : Way t n l c) : n ∈ allNodes t → (∀ u ∈ trail t n l, u ∈ allNodes t ∧ rk c < rk u ∧ rk u ≤ rk n) ∧ (trail t n l).Nodup := by
  induction hw with
  | nil n => exact fun _ => ⟨fun u hu => by simp [trail] at hu, by simp [trail]⟩
  | cons n l c h0 hw ih =>
    intro hn
    obtain ⟨h1, h2⟩ := Way.from_mem h hn h0
    obtain ⟨h3, h4⟩ := ih h1
    obtain ⟨_, h5⟩ := hw.end_mem h h1
    refine ⟨fun u hu => ?_, ?_⟩
    · simp only [trail, List.mem_cons] at hu
      rcases hu with rfl | hu
      · exact ⟨hn, by omega, Nat.le_refl _⟩
      · obtain ⟨h6, h7, h8⟩ := h3 u hu
        exact ⟨h6, h7, by omega⟩
    · simp only [trail, List.nodup_cons]
      exact ⟨fun hm => by have := (h3 n hm).2.2; omega, h4⟩

theorem Way.split {n c : Node} {l : List Int} (hw : Way t n l c) : ∀ u ∈ trail t n l, ∃ l1 l2, l = l1 ++ l2 ∧ l2 ≠ [] ∧ Way t u l2 c := by
  induction hw with
  | nil n => exact fun u hu => by simp [trail] at hu
  | cons n l c h0 hw ih =>
    intro u hu
    simp only [trail, List.mem_cons] at hu
    rcases hu with rfl | hu
    · exact ⟨[], _, rfl, by simp, .cons _ _ _ h0 hw⟩
    · obtain ⟨l1, l2, h1, h2, h3⟩ := ih u hu
      exact ⟨(solE t n).r :: l1, l2, by rw [h1]; rfl, h2, h3⟩

theorem Way.unique (h : Tree t rk) {n c : Node} {l : List Int} (hw : Way t n l c) : ∀ {l' : List Int}, n ∈ allNodes t → Way t n l' c → l = l' := by
  induction hw with
  | nil n =>
    intro l' hn hw'
    cases hw' with
    | nil => rfl
    | cons _ l _ h0 hw' =>
      obtain ⟨h1, h2⟩ := Way.from_mem h hn h0
      have := (hw'.end_mem h h1).2
      omega
  | cons n l c h0 hw ih =>
    intro l' hn hw'
    obtain ⟨h1, h2⟩ := Way.from_mem h hn h0
    cases hw' with
    | nil =>
      have := (hw.end_mem h h1).2
      omega
    | cons _ l _ h0 hw' => rw [ih h1 hw']

theorem Way.snoc {c : Node} {r : Int} : ∀ {l : List Int} {n : Node}, Way t n (l ++ [r]) c → ∃ u, Way t n l u ∧ (solE t u).r = r ∧ 0 ≤ r ∧ (solE t u).from_ = c
  | [], n, h => by
    generalize hl : [] ++ [r] = l at h
    cases h with
    | nil => simp at hl
    | cons _ l _ h0 hw =>
      simp only [List.nil_append, List.cons.injEq] at hl
      obtain ⟨rfl, rfl⟩ := hl
      cases hw with
      | nil => exact ⟨n, .nil n, rfl, h0, rfl⟩
  | a :: l, n, h => by
    generalize hl : a :: l ++ [r] = l' at h
    cases h with
    | nil => simp at hl
    | cons _ l' _ h0 hw =>
      simp only [List.cons_append, List.cons.injEq] at hl
      obtain ⟨rfl, rfl⟩ := hl
      obtain ⟨u, h1, h2⟩ := Way.snoc hw
      exact ⟨u, .cons _ _ _ h0 h1, h2⟩

theorem last_snoc {a : List Int} (h : 0 < a.length) : ∃ a1, a.dropLast = a1 ∧ a = a1 ++ [a.getD (a.length - 1) 0] := by
  have hne : a ≠ [] := by intro q; rw [q] at h; simp at h
  refine ⟨_, rfl, ?_⟩
  have h1 := (List.dropLast_concat_getLast hne).symm
  have h2 : a.getLast hne = a.getD (a.length - 1) 0 := by
    rw [List.getLast_eq_getElem, List.getD_eq_getElem?_getD, List.getElem?_eq_getElem (by omega)]
    rfl
  rw [h2] at h1
  exact h1

/-- Stripped of what they have in common two ways still meet. -/
theorem strip_ways (h : Tree t rk) {s m : Node} (hs : s ∈ allNodes t) (hm : m ∈ allNodes t) : ∀ (f : Nat) (a b : List Int) (c : Node), a.length = f → Way t s a c → Way t m b c →
    ∃ c', Way t s (strip f a b).1 c' ∧ Way t m (strip f a b).2 c' ∧ ¬ (0 < (strip f a b).1.length ∧ 0 < (strip f a b).2.length ∧ (strip f a b).1.getD ((strip f a b).1.length - 1) 0 = (strip f a b).2.getD ((strip f a b).2.length - 1) 0)
  | 0, a, b, c, hl, ha, hb => ⟨c, ha, hb, fun ⟨q, _⟩ => by simp only [strip] at q; omega⟩
  | f + 1, a, b, c, hl, ha, hb => by
    unfold strip
    by_cases hc : 0 < a.length ∧ 0 < b.length ∧ a.getD (a.length - 1) 0 = b.getD (b.length - 1) 0
    · rw [if_pos hc]
      obtain ⟨h1, h2, h3⟩ := hc
      obtain ⟨a1, e1, e2⟩ := last_snoc h1
      obtain ⟨b1, e3, e4⟩ := last_snoc h2
      rw [← h3] at e4
      generalize a.getD (a.length - 1) 0 = r at *
      rw [e1, e3]
      have hl1 : a1.length = f := by rw [e2] at hl; simp at hl; exact hl
      rw [e2] at ha
      rw [e4] at hb
      obtain ⟨u, u1, u2, u3, u4⟩ := Way.snoc ha
      obtain ⟨v, v1, v2, v3, v4⟩ := Way.snoc hb
      have hu := (u1.end_mem h hs).1
      have hv := (v1.end_mem h hm).1
      have huv : u = v := by
        rcases h.up u hu with ⟨p, _⟩ | ⟨_, _, _, i, x, p1, p2, p3, _⟩
        · omega
        · rcases h.up v hv with ⟨q, _⟩ | ⟨_, _, _, j, y, q1, q2, q3, _⟩
          · omega
          · have hij : i = j := by omega
            subst hij
            rw [p2] at q2
            simp only [Option.some.injEq] at q2
            subst q2
            rw [u4] at p3
            rw [v4] at q3
            rcases p3 with ⟨p3, p4⟩ | ⟨p3, p4⟩ <;> rcases q3 with ⟨q3, q4⟩ | ⟨q3, q4⟩
            · rw [p3, q3]
            · rw [p4] at q4; simp at q4
            · rw [p4] at q4; simp at q4
            · rw [p3, q3]
      subst huv
      exact strip_ways h hs hm f a1 b1 u hl1 u1 v1
    · rw [if_neg hc]
      exact ⟨c, ha, hb, hc⟩

theorem nodup_le {α : Type} [DecidableEq α] : ∀ {l m : List α}, l.Nodup → (∀ a ∈ l, a ∈ m) → l.length ≤ m.length
  | [], _, _, _ => Nat.zero_le _
  | a :: l, m, h, hs => by
    simp only [List.nodup_cons] at h
    have h1 := nodup_le (l := l) (m := m.erase a) h.2 fun b hb => by
      have hba : b ≠ a := fun q => h.1 (q ▸ hb)
      exact (List.mem_erase_of_ne hba).2 (hs b (List.mem_cons_of_mem _ hb))
    have h2 := List.length_erase_of_mem (hs a List.mem_cons_self)
    have h3 : 0 < m.length := List.length_pos_of_mem (hs a List.mem_cons_self)
    simp only [List.length_cons]
    omega

theorem getLast_app {l1 l2 : List Int} (h : l2 ≠ []) : (l1 ++ l2).getD ((l1 ++ l2).length - 1) 0 = l2.getD (l2.length - 1) 0 := by
  have : 0 < l2.length := List.length_pos_iff.2 h
  rw [List.getD_eq_getElem?_getD, List.getD_eq_getElem?_getD, List.getElem?_append_right (by simp; omega)]
  congr 2
  simp; omega

/-- Two ways that meet and have no more in common are short. -/
theorem ways_short (h : Tree t rk) {s m c : Node} {a b : List Int} (hs : s ∈ allNodes t) (hm : m ∈ allNodes t) (ha : Way t s a c) (hb : Way t m b c) (hno : ¬ (0 < a.length ∧ 0 < b.length ∧ a.getD (a.length - 1) 0 = b.getD (b.length - 1) 0)) :
    a.length + b.length + 1 ≤ (allNodes t).length := by
  obtain ⟨a1, a2⟩ := ha.trail_rank h hs
  obtain ⟨b1, b2⟩ := hb.trail_rank h hm
  have hc := (ha.end_mem h hs).1
  have key : (c :: (trail t s a ++ trail t m b)).Nodup := by
    rw [List.nodup_cons, List.nodup_append]
    refine ⟨fun hmem => ?_, a2, b2, fun u hu v hv e => ?_⟩
    · rcases List.mem_append.1 hmem with q | q
      · have := (a1 c q).2.1; omega
      · have := (b1 c q).2.1; omega
    · subst e
      obtain ⟨l1, l2, e1, n1, w1⟩ := ha.split u hu
      obtain ⟨l3, l4, e2, n2, w2⟩ := hb.split u hv
      have := w1.unique h (a1 u hu).1 w2
      subst this
      refine hno ⟨?_, ?_, ?_⟩
      · rw [e1, List.length_append]; have := List.length_pos_iff.2 n1; omega
      · rw [e2, List.length_append]; have := List.length_pos_iff.2 n1; omega
      · rw [e1, e2, getLast_app n1, getLast_app n1]
  have := nodup_le key (m := allNodes t) fun u hu => by
    rcases List.mem_cons.1 hu with rfl | hu
    · exact hc
    · rcases List.mem_append.1 hu with q | q
      · exact (a1 u q).1
      · exact (b1 u q).1
  simp only [List.length_cons, List.length_append, trail_len] at this
  exact this

end

end Go.Proofs.Ytlidakhdcnkabaa

namespace Go.Proofs.Ytlidakhdcnkabaa
open Go.AI

/-- Reading r joins u and v; their waves add up to it. -/
def Joined (t : Tide) (w : Node → Int) (r : Int) (u v : Node) : Prop :=
  ∃ (i : Nat) (x : Int × Int), r = i ∧ t.rs[i]? = some x ∧ ((u = sN t x ∧ v = mN t x) ∨ (u = mN t x ∧ v = sN t x)) ∧ eqv (w u + w v) x.2

theorem Joined.symm {t : Tide} {w : Node → Int} {r : Int} {u v : Node} (h : Joined t w r u v) : Joined t w r v u := by
  obtain ⟨i, x, h1, h2, h3, h4⟩ := h
  exact ⟨i, x, h1, h2, h3.symm.imp (fun h => ⟨h.2, h.1⟩) (fun h => ⟨h.2, h.1⟩), by rw [Int.add_comm]; exact h4⟩

inductive Trek (t : Tide) (w : Node → Int) : Node → List Int → Node → Prop
  | nil (n : Node) : Trek t w n [] n
  | cons (n : Node) (r : Int) (u : Node) (l : List Int) (c : Node) : Joined t w r n u → Trek t w u l c → Trek t w n (r :: l) c

section
variable {t : Tide} {w : Node → Int}

theorem Trek.append {a b c : Node} {l l' : List Int} (h : Trek t w a l b) (h' : Trek t w b l' c) : Trek t w a (l ++ l') c := by
  induction h with
  | nil n => exact h'
  | cons n r u l c hj _ ih => exact .cons _ _ _ _ _ hj (ih h')

theorem Trek.rev {a b : Node} {l : List Int} (h : Trek t w a l b) : Trek t w b l.reverse a := by
  induction h with
  | nil n => exact .nil n
  | cons n r u l c hj _ ih =>
    rw [List.reverse_cons]
    exact ih.append (.cons _ _ _ _ _ hj.symm (.nil n))

theorem Trek.side {n c : Node} {l : List Int} (h : Trek t w n l c) : c.1 = 1 → (n.1 = 0 → l.length % 2 = 1) ∧ (n.1 = 1 → l.length % 2 = 0) := by
  induction h with
  | nil n => exact fun h => ⟨fun q => (by rw [h] at q; cases q), fun _ => rfl⟩
  | cons n r u l c hj _ ih =>
    intro hc
    obtain ⟨i, x, _, _, h3, _⟩ := hj
    obtain ⟨i1, i2⟩ := ih hc
    simp only [List.length_cons]
    rcases h3 with ⟨h3, h4⟩ | ⟨h3, h4⟩
    · rw [h4] at i2
      have := i2 rfl
      rw [h3]
      exact ⟨fun _ => by omega, fun q => by simp at q⟩
    · rw [h4] at i1
      have := i1 rfl
      rw [h3]
      exact ⟨fun q => by simp at q, fun _ => by omega⟩

theorem rVerL_sun {st : Bool} {first prev x : Int × Int} {sum : Int} {l : List Int} {i : Nat} (hi : t.rs[i]? = some x) (h : x.1.tmod t.sun = prev.1.tmod t.sun) :
    rVerL t st true first prev sum ((i : Int) :: l) = rVerL t false false (if st = true then x else first) x (IntKind.i64.wrap (sum - x.2)) l := by
  have hlt : i < t.rs.length := (List.getElem?_eq_some_iff.1 hi).1
  have hg : t.rs.getD (i : Int).toNat (0, 0) = x := by simp [hi]
  rw [rVerL, if_pos ⟨by omega, by omega⟩]
  simp only [hg, if_true]
  rw [if_neg (fun q => q h)]

theorem rVerL_moon {st : Bool} {first prev x : Int × Int} {sum : Int} {l : List Int} {i : Nat} (hi : t.rs[i]? = some x) (h : st = false → x.1.tmod t.moon = prev.1.tmod t.moon) :
    rVerL t st false first prev sum ((i : Int) :: l) = rVerL t false true (if st = true then x else first) x (IntKind.i64.wrap (sum + x.2)) l := by
  have hlt : i < t.rs.length := (List.getElem?_eq_some_iff.1 hi).1
  have hg : t.rs.getD (i : Int).toNat (0, 0) = x := by simp [hi]
  rw [rVerL, if_pos ⟨by omega, by omega⟩]
  simp only [hg, Bool.false_eq_true, if_false]
  rw [if_neg (fun q => q.2 (h q.1))]

theorem trek_ver {n c : Node} {l : List Int} (h : Trek t w n l c) : ∀ (first prev : Int × Int) (sum : Int), c = mN t first → (n = sN t prev ∨ n = mN t prev) → ¬ eqv (sum - eps n * w n) (w c) → rVerL t false (decide (n.1 = 0)) first prev sum l = 0 := by
  induction h with
  | nil n =>
    intro first prev sum hc hn hs
    rcases hn with hn | hn
    · rw [hn] at hc; simp at hc
    · have he : first.1.tmod t.moon = prev.1.tmod t.moon := by
        rw [hn] at hc
        simp only [Prod.mk.injEq, true_and] at hc
        exact hc.symm
      have hne : sum ≠ 0 := by
        intro q
        refine hs ?_
        rw [q, hn, eps_m]
        unfold eqv
        generalize w (mN t prev) = z
        omega
      simp [rVerL, he, hne]
  | cons n r u l c hj _ ih =>
    intro first prev sum hc hn hs
    obtain ⟨i, x, h1, h2, h3, h4⟩ := hj
    rw [h1]
    rcases h3 with ⟨h3, h5⟩ | ⟨h3, h5⟩
    · have he : x.1.tmod t.sun = prev.1.tmod t.sun := by
        rcases hn with hn | hn
        · rw [h3] at hn; simpa using hn
        · rw [h3] at hn; simp at hn
      have hd : decide (n.1 = 0) = true := by rw [h3]; simp
      have hd' : decide (u.1 = 0) = false := by rw [h5]; simp
      rw [hd, rVerL_sun h2 he]
      have := ih first x (IntKind.i64.wrap (sum - x.2)) hc (.inr h5) (fun q => hs ?_)
      · rw [hd'] at this; simpa using this
      · have g := wrap_eqv (sum - x.2)
        generalize IntKind.i64.wrap (sum - x.2) = z at *
        rw [h5, eps_m] at q
        rw [h3, eps_s]
        rw [h3, h5] at h4
        unfold eqv at *
        generalize w (sN t x) = a at *
        generalize w (mN t x) = b at *
        generalize w c = d at *
        omega
    · have he : x.1.tmod t.moon = prev.1.tmod t.moon := by
        rcases hn with hn | hn
        · rw [h3] at hn; simp at hn
        · rw [h3] at hn; simpa using hn
      have hd : decide (n.1 = 0) = false := by rw [h3]; simp
      have hd' : decide (u.1 = 0) = true := by rw [h5]; simp
      rw [hd, rVerL_moon h2 (fun _ => he)]
      have := ih first x (IntKind.i64.wrap (sum + x.2)) hc (.inl h5) (fun q => hs ?_)
      · rw [hd'] at this; simpa using this
      · have g := wrap_eqv (sum + x.2)
        generalize IntKind.i64.wrap (sum + x.2) = z at *
        rw [h5, eps_s] at q
        rw [h3, eps_m]
        rw [h3, h5] at h4
        unfold eqv at *
        generalize w (sN t x) = a at *
        generalize w (mN t x) = b at *
        generalize w c = d at *
        omega
end

theorem Way.trek {t : Tide} {rk : Node → Nat} (h : Tree t rk) {n c : Node} {l : List Int} (hw : Way t n l c) : n ∈ allNodes t → Trek t (fun u => (solE t u).w) n l c := by
  induction hw with
  | nil n => exact fun _ => .nil n
  | cons n l c h0 _ ih =>
    intro hn
    obtain ⟨h1, _⟩ := Way.from_mem h hn h0
    refine .cons _ _ _ _ _ ?_ (ih h1)
    rcases h.up n hn with ⟨q, _⟩ | ⟨_, _, _, i, x, h2, h3, h4, h5⟩
    · omega
    · refine ⟨i, x, h2, h3, h4, ?_⟩
      have := wrap_eqv (x.2 - (solE t (solE t n).from_).w)
      simp only [h5]
      generalize IntKind.i64.wrap (x.2 - (solE t (solE t n).from_).w) = z at *
      unfold eqv at *
      omega

theorem badIx_at (s : List (Node × Edge)) (t : Tide) : ∀ (l : List (Int × Int)) (k : Nat), ¬ badIx s t k l < 0 → ∃ i x, badIx s t k l = ((k + i : Nat) : Int) ∧ l[i]? = some x ∧ badAt s t x = true
  | [], _, h => by simp [badIx] at h
  | x :: l, k, h => by
    unfold badIx at h ⊢
    by_cases hb : badAt s t x = true
    · exact ⟨0, x, by rw [if_pos hb]; rfl, rfl, hb⟩
    · rw [if_neg hb] at h ⊢
      obtain ⟨i, y, h1, h2, h3⟩ := badIx_at s t l (k + 1) h
      exact ⟨i + 1, y, by rw [h1]; omega, by simpa using h2, h3⟩

/-- What Clash finds is a ring that contradicts itself. -/
theorem clash_ring {t : Tide} (hc : checkT t = 0) (hi : ¬ badIx (solve t) t 0 t.rs < 0) : ∃ ring, clashT t = some (ring, 0) ∧ rVerifyT t ring = 0 := by
  have hok := check_ok hc
  obtain ⟨rk, hT⟩ := solve_tree hok
  obtain ⟨i, x, h1, h2, h3⟩ := badIx_at _ _ _ _ hi
  rw [Nat.zero_add] at h1
  have hx := List.mem_of_getElem? h2
  obtain ⟨hs, hm⟩ := ends_mem hok hx
  obtain ⟨a, a1, a2⟩ := way_some hT 200 _ hs (by have := hT.low _ hs; omega)
  obtain ⟨b, b1, b2⟩ := way_some hT 200 _ hm (by have := hT.low _ hm; omega)
  have heven : (solE t (sN t x)).root = (solE t (mN t x)).root := (solve_asg hok).even x hx
  rw [← heven] at b2
  obtain ⟨c, c1, c2, c3⟩ := strip_ways hT hs hm a.length a b _ rfl a2 b2
  have hg : t.rs.getD (i : Int).toNat (0, 0) = x := by simp [h2]
  refine ⟨(i : Int) :: ((strip a.length a b).1 ++ (strip a.length a b).2.reverse), ?_, ?_⟩
  · unfold clashT
    rw [if_neg (by rw [hc]; simp)]
    simp only
    rw [if_neg hi, h1, hg]
    have a1' : wayL (solve t) 200 (0, x.1.tmod t.sun) = some a := a1
    have b1' : wayL (solve t) 200 (1, x.1.tmod t.moon) = some b := b1
    rw [a1', b1']
  · generalize (strip a.length a b).1 = p at *
    generalize (strip a.length a b).2 = q at *
    have hshort := ways_short hT hs hm c1 c2 c3
    have hn60 := all_nodes_len t hok.1.1.2 hok.1.2.2
    have htrek := (c1.trek hT hs).append (c2.trek hT hm).rev
    have hodd := (htrek.side rfl).1 rfl
    have hbad : ¬ eqv ((solE t (sN t x)).w + (solE t (mN t x)).w) x.2 := by
      intro hh
      have := (wrap_iff (check_v hc x hx)).2 hh
      simp only [badAt, bne_iff_ne, ne_eq] at h3
      exact h3 this
    have hver := trek_ver htrek x x (IntKind.i64.wrap (0 + x.2)) rfl (.inl rfl) (fun hh => hbad ?_)
    · unfold rVerifyT
      rw [if_neg (by rw [hc]; simp)]
      have hl1 : ((i : Int) :: (p ++ q.reverse)).length = (p ++ q.reverse).length + 1 := rfl
      have hl2 : (p ++ q.reverse).length = p.length + q.length := by simp
      rw [if_pos ⟨⟨by rw [hl1]; omega, by rw [hl1]; omega⟩, by rw [hl1]; omega⟩, rVerL_moon h2 (fun q => by cases q)]
      simpa using hver
    · have g := wrap_eqv (0 + x.2)
      generalize IntKind.i64.wrap (0 + x.2) = z at *
      rw [eps_s] at hh
      unfold eqv at *
      generalize (solE t (sN t x)).w = u at *
      generalize (solE t (mN t x)).w = v at *
      omega

theorem wrap_add_wrap (a b : Int) : IntKind.i64.wrap (a + IntKind.i64.wrap b) = IntKind.i64.wrap (a + b) := by
  rw [IntKind.wrap_i64, IntKind.wrap_i64, IntKind.wrap_i64]
  omega

theorem ver_same (t : Tide) : ∀ (l : List Int) (st odd : Bool) (fN next : Node) (first prev : Int × Int) (sum : Int), (st = true → odd = false ∧ l ≠ []) → (st = false → fN = mN t first ∧ next = if odd = true then sN t prev else mN t prev) → l.length % 2 = (if odd = true then 1 else 0) →
    verL t st fN next sum (if odd = true then -1 else 1) l = rVerL t st odd first prev sum l
  | [], st, odd, fN, next, first, prev, sum, h1, h2, h3 => by
    cases odd with
    | true => simp at h3
    | false =>
      cases st with
      | true => exact absurd rfl (h1 rfl).2
      | false =>
        obtain ⟨e1, e2⟩ := h2 rfl
        simp only [Bool.false_eq_true, if_false] at e2
        rw [e1, e2]
        simp only [verL, rVerL, sameN]
        by_cases he : first.1.tmod t.moon = prev.1.tmod t.moon
        · simp [he]
        · have he' : ¬ prev.1.tmod t.moon = first.1.tmod t.moon := fun q => he q.symm
          simp [he, he']
  | i :: l, st, odd, fN, next, first, prev, sum, h1, h2, h3 => by
    unfold verL rVerL
    by_cases hr : 0 ≤ i ∧ i ≤ (t.rs.length : Int) - 1
    · rw [if_pos hr, if_pos hr]
      generalize t.rs.getD i.toNat (0, 0) = x
      simp only
      have hl : l.length % 2 = if (!odd) = true then 1 else 0 := by
        simp only [List.length_cons] at h3
        cases odd <;> simp at h3 ⊢ <;> omega
      cases odd with
      | true =>
        cases st with
        | true => exact absurd (h1 rfl).1 (by simp)
        | false =>
          obtain ⟨e1, e2⟩ := h2 rfl
          simp only [if_true] at e2
          rw [e1, e2]
          have ih := ver_same t l false false (mN t first) (mN t x) first x (IntKind.i64.wrap (sum - x.2)) (fun q => by cases q) (fun _ => ⟨rfl, rfl⟩) hl
          simp only [Bool.false_eq_true, if_false] at ih
          have hw : IntKind.i64.wrap (sum + IntKind.i64.wrap (-x.2)) = IntKind.i64.wrap (sum - x.2) := by rw [wrap_add_wrap]; congr 1
          by_cases he : x.1.tmod t.sun = prev.1.tmod t.sun
          · simp [sameN, he, hw, ih]
          · have he' : ¬ prev.1.tmod t.sun = x.1.tmod t.sun := fun q => he q.symm
            simp [sameN, he, he']
      | false =>
        cases st with
        | true =>
          have ih := ver_same t l false true (mN t x) (sN t x) x x (IntKind.i64.wrap (sum + x.2)) (fun q => by cases q) (fun _ => ⟨rfl, rfl⟩) hl
          simp only [if_true] at ih
          have hw' : IntKind.i64.wrap (sum + IntKind.i64.wrap x.2) = IntKind.i64.wrap (sum + x.2) := wrap_add_wrap _ _
          simp [hw', ih]
        | false =>
          obtain ⟨e1, e2⟩ := h2 rfl
          simp only [Bool.false_eq_true, if_false] at e2
          rw [e1, e2]
          have ih := ver_same t l false true (mN t first) (sN t x) first x (IntKind.i64.wrap (sum + x.2)) (fun q => by cases q) (fun _ => ⟨rfl, rfl⟩) hl
          simp only [if_true] at ih
          have hw' : IntKind.i64.wrap (sum + IntKind.i64.wrap x.2) = IntKind.i64.wrap (sum + x.2) := wrap_add_wrap _ _
          by_cases he : x.1.tmod t.moon = prev.1.tmod t.moon
          · simp [sameN, he, hw', ih]
          · have he' : ¬ prev.1.tmod t.moon = x.1.tmod t.moon := fun q => he q.symm
            simp [sameN, he, he']
    · rw [if_neg hr, if_neg hr]

theorem verify_same (t : Tide) (ring : List Int) : verifyT t ring = rVerifyT t ring := by
  unfold verifyT rVerifyT
  split
  · rfl
  · split
    · rename_i h
      exact ver_same t ring true false (0, 0) (0, 0) (0, 0) (0, 0) 0 (fun _ => ⟨rfl, fun q => by rw [q] at h; simp at h⟩) (fun q => by cases q) (by simpa using h.2)
    · rfl

end Go.Proofs.Ytlidakhdcnkabaa
