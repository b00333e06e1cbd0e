/- How a solution is found: definitions. The visit of a node: a closure that calls itself. The visit of a node, walked. The visit of a node, walked. No condition. -/
import Derived.Test.YtlidakhdcnkabaaM11
import Derived.Test.YtlidakhdcnkabaaM07
namespace Go.Proofs.Ytlidakhdcnkabaa
open Go.AI

abbrev Node := Int × Int
/-- Nodes that have not been reached; edges by which the others were. -/
structure Found where
  todo : List (Node × Bool)
  sol : List (Node × Edge)

def Found.has (v : Found) (n : Node) : Bool := (getK n v.todo).getD false

/-- Along the readings, from node n, which edge e has reached. -/
def along (t : Tide) (go : Node → Edge → Found → Found) (n : Node) (e : Edge) : Nat → List (Int × Int) → Found → Found
  | _, [], v => v
  | i, r :: rs, v =>
    along t go n e (i + 1) rs
      (if n = (0, r.1.tmod t.sun) ∧ v.has (1, r.1.tmod t.moon) = true then go (1, r.1.tmod t.moon) ⟨e.root, IntKind.i64.wrap (r.2 - e.w), i, n⟩ v
       else if n = (1, r.1.tmod t.moon) ∧ v.has (0, r.1.tmod t.sun) = true then go (0, r.1.tmod t.sun) ⟨e.root, IntKind.i64.wrap (r.2 - e.w), i, n⟩ v
       else v)

def visit (t : Tide) : Nat → Node → Edge → Found → Found
  | 0, _, _, v => v
  | f + 1, n, e, v => along t (visit t f) n e 0 t.rs ⟨delK n v.todo, upK n e v.sol⟩

/-- All nodes: the sun's, the moon's. -/
def allNodes (t : Tide) : List Node := (List.range t.sun.toNat).map (fun i : Nat => ((0, (i : Int)) : Node)) ++ (List.range t.moon.toNat).map fun i : Nat => ((1, (i : Int)) : Node)

/-- Whoever is left is a root. -/
def roots (t : Tide) : List Node → Found → Found
  | [], v => v
  | n :: l, v => roots t l (if v.has n then visit t 60 n ⟨n, 0, -1, n⟩ v else v)

def solve (t : Tide) : List (Node × Edge) := (roots t (allNodes t) ⟨(allNodes t).foldl (fun s n => upK n true s) [], []⟩).sol

end Go.Proofs.Ytlidakhdcnkabaa

namespace Go.Proofs.Ytlidakhdcnkabaa
open Go.AI
set_option linter.unusedSimpArgs false

@[simp] theorem ti100 : tiOf Try.prog 100 = some ⟨1, false, .im [], 8, .map 82 4⟩ := by kernel_rfl
@[simp] theorem ti101 : tiOf Try.prog 101 = some ⟨1, false, .nilf, 8, .other⟩ := by kernel_rfl
@[simp] theorem ti92 : (tiOf Try.prog 92).isSome = true := by kernel_rfl

abbrev booA (b : Bool) : AVal := .bool b

def asTodP : AVal × AVal → Option (Node × Bool)
  | (.agg [.int .i64 a, .int .i64 b], .bool c) => some ((a, b), c)
  | _ => none

def asTod (es : List (AVal × AVal)) : Option (List (Node × Bool)) := es.mapM asTodP

theorem asTod_some {es : List (AVal × AVal)} {s : List (Node × Bool)} (h : asTod es = some s) : es = kvs nodA booA s := by
  induction es generalizing s with
  | nil => simp [asTod] at h; subst h; rfl
  | cons e es ih =>
    simp only [asTod, List.mapM_cons, Option.bind_eq_bind, Option.bind_eq_some_iff, Option.pure_def, Option.some.injEq] at h
    obtain ⟨x, hx, ys, hys, rfl⟩ := h
    rw [ih hys]
    unfold asTodP at hx
    split at hx
    · cases hx; rfl
    · cases hx

theorem asTod_kvs (s : List (Node × Bool)) : asTod (kvs nodA booA s) = some s := by
  induction s with
  | nil => rfl
  | cons x s ih =>
    simp only [asTod, kvs, List.map_cons, List.mapM_cons] at ih ⊢
    rw [ih]
    rfl

theorem key_ab (a b : Int) : keyT Try.prog eqD 82 (.agg [.int .i64 a, .int .i64 b]) = true := node_key (a, b)
theorem find_tod (a b : Int) (s : List (Node × Bool)) : findA (eqT Try.prog eqD 82) (.agg [.int .i64 a, .int .i64 b]) (kvs nodA booA s) = some ((getK (a, b) s).map booA) := findA_kvs node_eq (a, b) s
theorem up_tod (a b : Int) (c : Bool) (s : List (Node × Bool)) : upsertA (eqT Try.prog eqD 82) (.agg [.int .i64 a, .int .i64 b]) (.bool c) (kvs nodA booA s) = some (kvs nodA booA (upK (a, b) c s)) := upsertA_kvs (ve := booA) node_eq node_same (a, b) c s
theorem del_tod (a b : Int) (s : List (Node × Bool)) : eraseA (eqT Try.prog eqD 82) (.agg [.int .i64 a, .int .i64 b]) (kvs nodA booA s) = some (kvs nodA booA (delK (a, b) s)) := eraseA_kvs (ve := booA) node_eq (a, b) s
theorem up_sol (a b : Int) (e : Edge) (s : List (Node × Edge)) : upsertA (eqT Try.prog eqD 82) (.agg [.int .i64 a, .int .i64 b]) (edgeA e) (kvs nodA edgeA s) = some (kvs nodA edgeA (upK (a, b) e s)) := upsertA_kvs (ve := edgeA) node_eq node_same (a, b) e s

theorem up_sol_ab (a b c d w r f g : Int) (s : List (Node × Edge)) : upsertA (eqT Try.prog eqD 82) (.agg [.int .i64 a, .int .i64 b]) (.agg [.int .i64 c, .int .i64 d, .int .i64 w, .int .i64 r, .int .i64 f, .int .i64 g]) (kvs nodA edgeA s) = some (kvs nodA edgeA (upK (a, b) ⟨(c, d), w, r, (f, g)⟩ s)) := up_sol a b ⟨(c, d), w, r, (f, g)⟩ s

theorem look_tod (nx G : Nat) (s : List (Node × Bool)) (a b : Int) : (lookRes nx G (AVal.bool false) false ((getK (a, b) s).map booA) : Rd Delta) = valR nx G (.bool ((getK (a, b) s).getD false)) := by
  unfold lookRes; cases getK (a, b) s <;> rfl

/-- What the closure is handed, and what it leaves. -/
def visitS (k : Nat) : FSpec := fun xs nx G => match xs with
  | [.agg [.int .i64 na, .int .i64 nb], .agg [.int .i64 ra, .int .i64 rb, .int .i64 w, .int .i64 r, .int .i64 fa, .int .i64 fb], .ptr b4 g4 i4 o4, .ptr b3 g3 i3 o3, .ptr b0 g0 i0 o0, .ptr b5 g5 i5 o5] =>
    if b4 = 4 ∧ i4 = 0 ∧ o4 = 0 ∧ b3 = 3 ∧ i3 = 0 ∧ o3 = 0 ∧ b0 = 0 ∧ i0 = 0 ∧ o0 = 0 ∧ b5 = 5 ∧ i5 = 0 ∧ o5 = 0 then
      row? 4 g4 fun sz4 es4 wr4 => row? 3 g3 fun sz3 es3 wr3 => row? 0 g0 fun sz0 es0 wr0 => row? 5 g5 fun sz5 es5 wr5 =>
      match es4, es3, es0, es5 with
      | [[.mp b2 g2]], [[.mp b1 g1]], [[.int .i64 s, .int .i64 m, .il rs _]], [[.fn (.func f) [] [.ptr c4 h4 j4 p4, .ptr c3 h3 j3 p3, .ptr c0 h0 j0 p0, .ptr c5 h5 j5 p5]]] =>
        if (b2 = 2 ∧ b1 = 1 ∧ f = 58 ∧ sz4 = 1 ∧ sz3 = 1 ∧ sz0 = 3 ∧ sz5 = 1 ∧ wr4 = true ∧ wr3 = true ∧ wr0 = true ∧ wr5 = true ∧ s ≠ 0 ∧ m ≠ 0) ∧
           c4 = 4 ∧ h4 = g4 ∧ j4 = 0 ∧ p4 = 0 ∧ c3 = 3 ∧ h3 = g3 ∧ j3 = 0 ∧ p3 = 0 ∧ c0 = 0 ∧ h0 = g0 ∧ j0 = 0 ∧ p0 = 0 ∧ c5 = 5 ∧ h5 = g5 ∧ j5 = 0 ∧ p5 = 0 then
          map? 1 g1 fun todo _ => map? 2 g2 fun sol _ => ofOpt (asTod todo) fun todo => ofOpt (asSol sol) fun sol => ofOpt (asPairs rs) fun rs =>
            if todo.length ≤ k ∧ Found.has ⟨todo, sol⟩ (na, nb) = true then
              let v := visit ⟨s, m, rs⟩ k (na, nb) ⟨(ra, rb), w, r, (fa, fb)⟩ ⟨todo, sol⟩
              .ret ⟨.tup [], [(1, some (.map (kvs nodA booA v.todo) g1 0)), (2, some (.map (kvs nodA edgeA v.sol) g2 0))], nx, G⟩
            else .fail
        else .fail
      | _, _, _, _ => .fail
    else .fail
  | _ => .fail

def XV (k : Nat) : Ext := .of [(52, endsS), (58, visitS k)] [58]
@[simp] theorem XV.raw58 (k : Nat) : (XV k).raw 58 = true := rfl
@[simp] theorem XV.raw52 (k : Nat) : (XV k).raw 52 = false := rfl
@[simp] theorem XV.s52 (k : Nat) : (XV k).spec 52 = endsS := rfl
@[simp] theorem XV.s58 (k : Nat) : (XV k).spec 58 = visitS k := rfl

/-- The heap that the closure works on. -/
abbrev visitH (t : Tide) (ex : Bool) (g0 g1 g2 g3 g4 g5 : Nat) (v : Found) : AHeap :=
  [(0, some (.row 3 [[.int .i64 t.sun, .int .i64 t.moon, .il (t.rs.map fun x => [.int .i64 x.1, .int .i64 x.2]) ex]] g0 true)), (1, some (.map (kvs nodA booA v.todo) g1 0)), (2, some (.map (kvs nodA edgeA v.sol) g2 0)), (3, some (.row 1 [[.mp 1 g1]] g3 true)), (4, some (.row 1 [[.mp 2 g2]] g4 true)),
   (5, some (.row 1 [[.fn (.func 58) [] [.ptr 4 g4 0 0, .ptr 3 g3 0 0, .ptr 0 g0 0 0, .ptr 5 g5 0 0]]] g5 true))]

theorem visit_at (k : Nat) (na nb ra rb w r fa fb : Int) (t : Tide) (ex : Bool) (g0 g1 g2 g3 g4 g5 nx G : Nat) (v : Found) (hp : Nat → Option AObj) (hs : t.sun ≠ 0) (hm : t.moon ≠ 0) (hk : v.todo.length ≤ k) (hh : v.has (na, nb) = true) 
    (h0 : hp 0 = hget (visitH t ex g0 g1 g2 g3 g4 g5 v) 0) (h1 : hp 1 = hget (visitH t ex g0 g1 g2 g3 g4 g5 v) 1) (h2 : hp 2 = hget (visitH t ex g0 g1 g2 g3 g4 g5 v) 2) (h3 : hp 3 = hget (visitH t ex g0 g1 g2 g3 g4 g5 v) 3) (h4 : hp 4 = hget (visitH t ex g0 g1 g2 g3 g4 g5 v) 4) (h5 : hp 5 = hget (visitH t ex g0 g1 g2 g3 g4 g5 v) 5) :
    (visitS k [.agg [.int .i64 na, .int .i64 nb], .agg [.int .i64 ra, .int .i64 rb, .int .i64 w, .int .i64 r, .int .i64 fa, .int .i64 fb], .ptr 4 g4 0 0, .ptr 3 g3 0 0, .ptr 0 g0 0 0, .ptr 5 g5 0 0] nx G).run hp =
      some ⟨.tup [], [(1, some (.map (kvs nodA booA (visit t k (na, nb) ⟨(ra, rb), w, r, (fa, fb)⟩ v).todo) g1 0)), (2, some (.map (kvs nodA edgeA (visit t k (na, nb) ⟨(ra, rb), w, r, (fa, fb)⟩ v).sol) g2 0))], nx, G⟩ := by
  simp [visitH] at h0 h1 h2 h3 h4 h5
  have e1 := asTod_kvs v.todo
  have e2 := asSol_kvs v.sol
  simp only [kvs] at e1 e2
  simp [visitS, h0, h1, h2, h3, h4, h5, hs, hm, e1, e2, hk, hh]

end Go.Proofs.Ytlidakhdcnkabaa

namespace Go.Proofs.Ytlidakhdcnkabaa
open Go.AI
set_option linter.unusedSimpArgs false

theorem delK_len {κ β : Type} [DecidableEq κ] {k : κ} : ∀ {s : List (κ × β)}, (getK k s).isSome = true → (delK k s).length + 1 = s.length
  | [], h => by simp [getK] at h
  | (x, u) :: s, h => by
    simp only [getK] at h
    simp only [delK]
    split
    · rfl
    · rename_i hk
      rw [if_neg hk] at h
      simp [delK_len h]

theorem has_some {v : Found} {n : Node} (h : v.has n = true) : (getK n v.todo).isSome = true := by
  unfold Found.has at h
  cases hg : getK n v.todo with
  | none => rw [hg] at h; cases h
  | some b => rfl

theorem delK_le {κ β : Type} [DecidableEq κ] (k : κ) : ∀ s : List (κ × β), (delK k s).length ≤ s.length
  | [] => Nat.le_refl _
  | (x, u) :: s => by
    simp only [delK]
    split
    · simp
    · simpa using delK_le k s

theorem along_len (t : Tide) (go : Node → Edge → Found → Found) (hgo : ∀ n e v, (go n e v).todo.length ≤ v.todo.length) (n : Node) (e : Edge) : ∀ (l : List (Int × Int)) (i : Nat) (v : Found), (along t go n e i l v).todo.length ≤ v.todo.length
  | [], _, _ => Nat.le_refl _
  | r :: l, i, v => by
    unfold along
    refine Nat.le_trans (along_len t go hgo n e l _ _) ?_
    split
    · exact hgo _ _ _
    split
    · exact hgo _ _ _
    · exact Nat.le_refl _

theorem visit_len (t : Tide) : ∀ (f : Nat) (n : Node) (e : Edge) (v : Found), (visit t f n e v).todo.length ≤ v.todo.length
  | 0, _, _, _ => Nat.le_refl _
  | f + 1, n, e, v => by
    unfold visit
    exact Nat.le_trans (along_len t _ (visit_len t f) n e _ _ _) (delK_le _ _)

theorem visit_inv {k : Nat} {xs : List AVal} {nx G : Nat} {d : Delta} {hp : Nat → Option AObj} (h : (visitS k xs nx G).run hp = some d) :
    ∃ (na nb ra rb w r fa fb : Int) (t : Tide) (ex : Bool) (g0 g1 g2 g3 g4 g5 v1 v2 : Nat) (v : Found), xs = [.agg [.int .i64 na, .int .i64 nb], .agg [.int .i64 ra, .int .i64 rb, .int .i64 w, .int .i64 r, .int .i64 fa, .int .i64 fb], .ptr 4 g4 0 0, .ptr 3 g3 0 0, .ptr 0 g0 0 0, .ptr 5 g5 0 0] ∧
      hp 0 = hget (visitH t ex g0 g1 g2 g3 g4 g5 v) 0 ∧ hp 1 = some (.map (kvs nodA booA v.todo) g1 v1) ∧ hp 2 = some (.map (kvs nodA edgeA v.sol) g2 v2) ∧ hp 3 = hget (visitH t ex g0 g1 g2 g3 g4 g5 v) 3 ∧ hp 4 = hget (visitH t ex g0 g1 g2 g3 g4 g5 v) 4 ∧ hp 5 = hget (visitH t ex g0 g1 g2 g3 g4 g5 v) 5 ∧
      t.sun ≠ 0 ∧ t.moon ≠ 0 ∧ v.todo.length ≤ k ∧ v.has (na, nb) = true ∧
      d = ⟨.tup [], [(1, some (.map (kvs nodA booA (visit t k (na, nb) ⟨(ra, rb), w, r, (fa, fb)⟩ v).todo) g1 0)), (2, some (.map (kvs nodA edgeA (visit t k (na, nb) ⟨(ra, rb), w, r, (fa, fb)⟩ v).sol) g2 0))], nx, G⟩ := by
  unfold visitS at h
  split at h
  · rename_i na nb ra rb w r fa fb b4 g4 i4 o4 b3 g3 i3 o3 b0 g0 i0 o0 b5 g5 i5 o5
    split at h
    · rename_i hc
      obtain ⟨rfl, rfl, rfl, rfl, rfl, rfl, rfl, rfl, rfl, rfl, rfl, rfl⟩ := hc
      replace h := rd_row h; obtain ⟨sz4, es4, wr4, k4, h⟩ := h
      replace h := rd_row h; obtain ⟨sz3, es3, wr3, k3, h⟩ := h
      replace h := rd_row h; obtain ⟨sz0, es0, wr0, k0, h⟩ := h
      replace h := rd_row h; obtain ⟨sz5, es5, wr5, k5, h⟩ := h
      split at h
      · rename_i b2 g2 b1 g1 s m rs ex f c4 h4 j4 p4 c3 h3 j3 p3 c0 h0 j0 p0 c5 h5 j5 p5
        split at h
        · rename_i hc
          obtain ⟨⟨rfl, rfl, rfl, rfl, rfl, rfl, rfl, rfl, rfl, rfl, rfl, hs, hm⟩, rfl, rfl, rfl, rfl, rfl, rfl, rfl, rfl, rfl, rfl, rfl, rfl, rfl, rfl, rfl, rfl⟩ := hc
          replace h := rd_map h; obtain ⟨todo, v1, k1, h⟩ := h
          replace h := rd_map h; obtain ⟨sol, v2, k2, h⟩ := h
          replace h := rd_opt h; obtain ⟨todo', e1, h⟩ := h
          replace h := rd_opt h; obtain ⟨sol', e2, h⟩ := h
          replace h := rd_opt h; obtain ⟨rs', e3, h⟩ := h
          have := asTod_some e1; subst this
          have := asSol_some e2; subst this
          have := asPairs_some e3; subst this
          split at h
          · rename_i hc
            simp only [Rd.run, Option.some.injEq] at h
            exact ⟨na, nb, ra, rb, w, r, fa, fb, ⟨s, m, rs'⟩, ex, _, _, _, _, _, _, v1, v2, ⟨todo', sol'⟩, rfl, k0, k1, k2, k3, k4, k5, hs, hm, hc.1, hc.2, h.symm⟩
          · exact (rd_fail h).elim
        · exact (rd_fail h).elim
      · exact (rd_fail h).elim
    · exact (rd_fail h).elim
  · exact (rd_fail h).elim

end Go.Proofs.Ytlidakhdcnkabaa

namespace Go.Proofs.Ytlidakhdcnkabaa
open Go.AI
set_option linter.unusedSimpArgs false

theorem View.two {N : Nat} (s : St) {es1 es2 : List (AVal × AVal)} {g1 g2 v1 v2 : Nat} (ts bs : List Nat) (nx G : Nat) (hG : s.G ≤ G) (h1 : hget s.heap 1 = some (.map es1 g1 v1)) (h2 : hget s.heap 2 = some (.map es2 g2 v2)) :
    View N s ⟨keepT ts s.tmps, keepH bs ((2, some (.map es2 g2 0)) :: (1, some (.map es1 g1 0)) :: s.heap), nx, G⟩ :=
  (View.mapv s 1 g1 v1 0 es1 h1).trans ((View.mapv _ 2 g2 v2 0 es2 (by simp [h2])).trans (View.norm _ ts bs nx G hG))

def sameN (a b : Node) : Bool := decide (a = b)
theorem eq_nn (a b c d : Int) : eqT Try.prog eqD 82 (.agg [.int .i64 a, .int .i64 b]) (.agg [.int .i64 c, .int .i64 d]) = some (sameN (a, b) (c, d)) := node_eq (a, b) (c, d)

theorem visit_sound : ∀ k, FSound Try.prog 58 (visitS k)
  | 0 => by
    intro C xs vs nx G d hv hr hG h
    obtain ⟨na, nb, ra, rb, w, r, fa, fb, t, ex, g0, g1, g2, g3, g4, g5, v1, v2, v, rfl, k0, k1, k2, k3, k4, k5, hs, hm, hle, hhas, rfl⟩ := visit_inv h
    have := delK_len (has_some hhas)
    omega
  | k + 1 => by
    have hX : (XV k).Sound Try.prog := Ext.of_sound ⟨ends_sound, visit_sound k, trivial⟩
    refine fsound_of Try.func58 (by kernel_rfl) rfl _ fun xs nx G d hp h => ?_
    obtain ⟨na, nb, ra, rb, w, r, fa, fb, t, ex, g0, g1, g2, g3, g4, g5, v1, v2, v, rfl, k0, k1, k2, k3, k4, k5, hs, hm, hle, hhas, rfl⟩ := visit_inv h
    clear h
    have hlent : ∀ b g, lentH hp [0, 1, 2, 3, 4, 5] b g ↔ (b = 0 ∧ g = g0) ∨ (b = 1 ∧ g = g1) ∨ (b = 2 ∧ g = g2) ∨ (b = 3 ∧ g = g3) ∨ (b = 4 ∧ g = g4) ∨ (b = 5 ∧ g = g5) := by
      intro b g
      constructor
      · rintro ⟨hb, x, hx, rfl⟩
        simp only [List.mem_cons, List.not_mem_nil, or_false] at hb
        rcases hb with rfl | rfl | rfl | rfl | rfl | rfl
        · rw [k0] at hx; cases hx; simp [AObj.gen]
        · rw [k1] at hx; cases hx; simp [AObj.gen]
        · rw [k2] at hx; cases hx; simp [AObj.gen]
        · rw [k3] at hx; cases hx; simp [AObj.gen]
        · rw [k4] at hx; cases hx; simp [AObj.gen]
        · rw [k5] at hx; cases hx; simp [AObj.gen]
      · rintro (⟨rfl, rfl⟩ | ⟨rfl, rfl⟩ | ⟨rfl, rfl⟩ | ⟨rfl, rfl⟩ | ⟨rfl, rfl⟩ | ⟨rfl, rfl⟩)
        · exact ⟨by simp, _, k0, rfl⟩
        · exact ⟨by simp, _, k1, rfl⟩
        · exact ⟨by simp, _, k2, rfl⟩
        · exact ⟨by simp, _, k3, rfl⟩
        · exact ⟨by simp, _, k4, rfl⟩
        · exact ⟨by simp, _, k5, rfl⟩
    have hfree : ∀ {v : AVal}, Free v → Within (lentH hp [0, 1, 2, 3, 4, 5]) v := fun h => h.mono fun _ _ h => h.elim
    obtain ⟨n, hn⟩ : ∃ n : Node, n = (na, nb) := ⟨_, rfl⟩
    obtain ⟨e, he⟩ : ∃ e : Edge, e = ⟨(ra, rb), w, r, (fa, fb)⟩ := ⟨_, rfl⟩
    refine ⟨[0, 1, 2, 3, 4, 5], ⟨argT 0 [.agg [.int .i64 na, .int .i64 nb], .agg [.int .i64 ra, .int .i64 rb, .int .i64 w, .int .i64 r, .int .i64 fa, .int .i64 fb], .ptr 4 g4 0 0, .ptr 3 g3 0 0, .ptr 0 g0 0 0, .ptr 5 g5 0 0],
      (1, some (.map (kvs nodA booA v.todo) g1 v1)) :: (2, some (.map (kvs nodA edgeA v.sol) g2 v2)) :: visitH t ex g0 g1 g2 g3 g4 g5 v, 6, g0 + g1 + g2 + g3 + g4 + g5 + 1⟩, rfl, by simp [Try.f58], ?_, ?_, ?_, ?_, ?_⟩
    · intro a ha
      simp only [List.mem_cons, List.not_mem_nil, or_false] at ha
      rcases ha with rfl | rfl | rfl | rfl | rfl | rfl
      · simp
      · simp
      · simp [hlent]
      · simp [hlent]
      · simp [hlent]
      · simp [hlent]
    · intro b hb x hx
      simp only [List.mem_cons, List.not_mem_nil, or_false] at hb
      rcases hb with rfl | rfl | rfl | rfl | rfl | rfl
      · rw [k0] at hx; cases hx
        intro e' he' a ha
        exact hfree ((Within.agg_iff _).1 (free_tide t ex) a (by simp only [List.mem_cons, List.not_mem_nil, or_false] at he'; subst he'; exact ha))
      · rw [k1] at hx; cases hx
        exact fun e' he' => by obtain ⟨x, _, rfl⟩ := List.mem_map.1 he'; simp
      · rw [k2] at hx; cases hx
        exact fun e' he' => by obtain ⟨x, _, rfl⟩ := List.mem_map.1 he'; simp
      · rw [k3] at hx; cases hx; simp [ObjIn, hlent]
      · rw [k4] at hx; cases hx; simp [ObjIn, hlent]
      · rw [k5] at hx; cases hx; simp [ObjIn, hlent]
    · funext b
      by_cases hb : b ∈ [0, 1, 2, 3, 4, 5]
      · rw [if_pos hb]
        simp only [List.mem_cons, List.not_mem_nil, or_false] at hb
        rcases hb with rfl | rfl | rfl | rfl | rfl | rfl
        · rw [k0]; rfl
        · rw [k1]; rfl
        · rw [k2]; rfl
        · rw [k3]; rfl
        · rw [k4]; rfl
        · rw [k5]; rfl
      · rw [if_neg hb]
        exact hget_none (by simp only [List.map_cons, List.map_nil, List.mem_cons, List.not_mem_nil, or_false] at hb ⊢; omega)
    · intro b g hbg
      rw [hlent] at hbg
      rcases hbg with ⟨_, rfl⟩ | ⟨_, rfl⟩ | ⟨_, rfl⟩ | ⟨_, rfl⟩ | ⟨_, rfl⟩ | ⟨_, rfl⟩ <;> simp only [] <;> omega
    refine .step hX (by kernel_rfl) (by simp; exact rfl) ?_ -- region 0
    refine .step hX (by kernel_rfl) (by simp [key_ab, up_sol_ab]; exact rfl) ?_ -- region 1
    refine .step hX (by kernel_rfl) (by simp [key_ab, del_tod]; exact rfl) ?_ -- region 2
    refine .step hX (by kernel_rfl) (by simp; exact rfl) ?_ -- region 3
    refine .block ?_
    refine .loopV (fun m st => ∃ (j : Nat) (u : Found) (G : Nat), j ≤ t.rs.length ∧ m = t.rs.length - j ∧ along t (visit t k) n e j (t.rs.drop j) u = visit t (k + 1) n e v ∧ u.todo.length ≤ k ∧
      st = ⟨[(3, .ptr 3 g3 0 0), (4, .ptr 0 g0 0 0), (5, .ptr 5 g5 0 0), (6, .ptr 6 (g0 + g1 + g2 + g3 + g4 + g5 + 1) 0 0), (7, .ptr 7 (g0 + g1 + g2 + g3 + g4 + g5 + 2) 0 0), (18, .il (t.rs.map fun x => [.int .i64 x.1, .int .i64 x.2]) ex), (19, .int .i64 t.rs.length), (20, .int .i64 j)],
        visitH t ex g0 g1 g2 g3 g4 g5 u ++ [(6, some (.row 2 [[.int .i64 na, .int .i64 nb]] (g0 + g1 + g2 + g3 + g4 + g5 + 1) true)), (7, some (.row 6 [[.int .i64 ra, .int .i64 rb, .int .i64 w, .int .i64 r, .int .i64 fa, .int .i64 fb]] (g0 + g1 + g2 + g3 + g4 + g5 + 2) true))], 8, G⟩) ?_
      (View.two _ [3, 4, 5, 6, 7, 18, 19, 20] [0, 1, 2, 3, 4, 5, 6, 7] 8 (g0 + g1 + g2 + g3 + g4 + g5 + 4) (by simp) (by simp; exact ⟨rfl, rfl, rfl⟩) (by simp; exact ⟨rfl, rfl, rfl⟩)) ⟨0, ⟨delK n v.todo, upK n e v.sol⟩, g0 + g1 + g2 + g3 + g4 + g5 + 4, by omega, rfl, by simp [visit], ?_, ?_⟩
    · rintro m st ⟨j, u, G1, hj, rfl, hal, hlen, rfl⟩
      refine .len 18 (es := pairs t.rs) (ex := ex) (by simp) fun hlr => ?_
      have hb : t.rs.length < 9223372036854775808 := by simp [maxLen] at hlr; omega
      refine .step hX (by kernel_rfl) (by simp; exact rfl) ?_ -- region 4
      refine .seq ?_
      refine .cond_split (by simp; exact rfl) (fun hc => ?_) (fun hc => ?_) -- t21
      · have hj' : j < t.rs.length := by simpa using hc
        have hdrop : t.rs.drop j = t.rs[j] :: t.rs.drop (j + 1) := List.drop_eq_getElem_cons hj'
        rw [hdrop, along] at hal
        obtain ⟨x, hx⟩ : ∃ x, x = t.rs[j] := ⟨_, rfl⟩
        rw [← hx] at hal
        have hw1 : IntKind.i64.wrap ((j : Int) + 1) = (j : Int) + 1 := wrap64 (by omega) (by omega)
        have hv := fun (a b : Int) (nx G : Nat) (hp : Nat → Option AObj) (hh : u.has (a, b) = true) => visit_at k a b ra rb (IntKind.i64.wrap (x.2 - w)) j na nb t ex g0 g1 g2 g3 g4 g5 nx G u hp hs hm hlen hh
        refine .skip (.seq (.block ?_))
        refine .step hX (by kernel_rfl) (by simp [hj', ← hx]; exact rfl) ?_ -- region 5
        refine .step hX (by kernel_rfl) (by simp [ends_at, hs, hm]; exact rfl) ?_ -- region 6
        refine .block ?_
        by_cases qq : sameN (na, nb) (0, x.1.tmod t.sun) = true ∧ (getK (1, x.1.tmod t.moon) u.todo).getD false = true
        · obtain ⟨q1, q2⟩ := qq
          have hv1 := fun nx G hp => hv 1 (x.1.tmod t.moon) nx G hp q2
          refine .step hX (by kernel_rfl) (by simp [eq_nn, q1, key_ab, find_tod, look_tod, q2]; exact rfl) ?_
          refine .cond (t := true) (by simp) ?_
          refine .region hX (by kernel_rfl) (by simp [hv1]; exact rfl) ?_
          refine .region hX (by kernel_rfl) (by simp; exact rfl) ?_
          refine ⟨_, _, View.two _ [3, 4, 5, 6, 7, 18, 19, 20] [0, 1, 2, 3, 4, 5, 6, 7] 8 (G1 + 3) (by simp) (by simp; exact ⟨rfl, rfl, rfl⟩) (by simp; exact ⟨rfl, rfl, rfl⟩), ?_, j + 1, visit t k (1, x.1.tmod t.moon) ⟨(ra, rb), IntKind.i64.wrap (x.2 - w), j, (na, nb)⟩ u, G1 + 3, by omega, rfl, ?_, ?_, ?_⟩
          · omega
          · rw [if_pos ⟨of_decide_eq_true (hn ▸ q1), q2⟩] at hal
            rw [← hal, he, hn]
          · exact Nat.le_trans (visit_len _ _ _ _ _) hlen
          · simp [hw1]
        · have hq : ∀ {A B : Found}, (if n = (0, x.1.tmod t.sun) ∧ u.has (1, x.1.tmod t.moon) = true then A else B) = B := fun {A B} => if_neg fun h => qq ⟨hn ▸ decide_eq_true h.1, h.2⟩
          rw [hq] at hal
          cases q1 : sameN (na, nb) (0, x.1.tmod t.sun)
          case true =>
            have q2 : (getK (1, x.1.tmod t.moon) u.todo).getD false = false := by
              cases h : (getK (1, x.1.tmod t.moon) u.todo).getD false
              · rfl
              · exact absurd ⟨q1, h⟩ qq
            have q3 : sameN (na, nb) (1, x.1.tmod t.moon) = false := by
              have := of_decide_eq_true q1
              simp only [Prod.mk.injEq] at this
              simp [sameN, this.1]
            rw [if_neg fun h => by rw [← hn] at q3; exact of_decide_eq_false q3 h.1] at hal
            refine .step hX (by kernel_rfl) (by simp [eq_nn, q1, key_ab, find_tod, look_tod, q2]; exact rfl) ?_
            refine .cond (t := false) (by simp) ?_
            refine .step hX (by kernel_rfl) (by simp [eq_nn, q3]; exact rfl) ?_
            refine .cond (t := false) (by simp) (.skip ?_)
            refine .region hX (by kernel_rfl) (by simp; exact rfl) ?_
            refine ⟨_, _, View.two _ [3, 4, 5, 6, 7, 18, 19, 20] [0, 1, 2, 3, 4, 5, 6, 7] 8 (G1 + 3) (by simp) (by simp; exact ⟨rfl, rfl, rfl⟩) (by simp; exact ⟨rfl, rfl, rfl⟩), ?_, j + 1, u, G1 + 3, by omega, rfl, hal, hlen, ?_⟩
            · omega
            · simp [hw1]
          case false =>
            refine .step hX (by kernel_rfl) (by simp [eq_nn, q1]; exact rfl) ?_
            refine .cond (t := false) (by simp) ?_
            by_cases qq : sameN (na, nb) (1, x.1.tmod t.moon) = true ∧ (getK (0, x.1.tmod t.sun) u.todo).getD false = true
            · obtain ⟨q3, q4⟩ := qq
              have hv1 := fun nx G hp => hv 0 (x.1.tmod t.sun) nx G hp q4
              refine .step hX (by kernel_rfl) (by simp [eq_nn, q3, key_ab, find_tod, look_tod, q4]; exact rfl) ?_
              refine .cond (t := true) (by simp) ?_
              refine .region hX (by kernel_rfl) (by simp [hv1]; exact rfl) ?_
              refine .region hX (by kernel_rfl) (by simp; exact rfl) ?_
              refine ⟨_, _, View.two _ [3, 4, 5, 6, 7, 18, 19, 20] [0, 1, 2, 3, 4, 5, 6, 7] 8 (G1 + 3) (by simp) (by simp; exact ⟨rfl, rfl, rfl⟩) (by simp; exact ⟨rfl, rfl, rfl⟩), ?_, j + 1, visit t k (0, x.1.tmod t.sun) ⟨(ra, rb), IntKind.i64.wrap (x.2 - w), j, (na, nb)⟩ u, G1 + 3, by omega, rfl, ?_, ?_, ?_⟩
              · omega
              · rw [if_pos ⟨of_decide_eq_true (hn ▸ q3), q4⟩] at hal
                rw [← hal, he, hn]
              · exact Nat.le_trans (visit_len _ _ _ _ _) hlen
              · simp [hw1]
            · rw [if_neg fun h => qq ⟨hn ▸ decide_eq_true h.1, h.2⟩] at hal
              cases q3 : sameN (na, nb) (1, x.1.tmod t.moon)
              case true =>
                have q4 : (getK (0, x.1.tmod t.sun) u.todo).getD false = false := by
                  cases h : (getK (0, x.1.tmod t.sun) u.todo).getD false
                  · rfl
                  · exact absurd ⟨q3, h⟩ qq
                refine .step hX (by kernel_rfl) (by simp [eq_nn, q3, key_ab, find_tod, look_tod, q4]; exact rfl) ?_
                refine .cond (t := false) (by simp) (.skip ?_)
                refine .region hX (by kernel_rfl) (by simp; exact rfl) ?_
                refine ⟨_, _, View.two _ [3, 4, 5, 6, 7, 18, 19, 20] [0, 1, 2, 3, 4, 5, 6, 7] 8 (G1 + 3) (by simp) (by simp; exact ⟨rfl, rfl, rfl⟩) (by simp; exact ⟨rfl, rfl, rfl⟩), ?_, j + 1, u, G1 + 3, by omega, rfl, hal, hlen, ?_⟩
                · omega
                · simp [hw1]
              case false =>
                refine .step hX (by kernel_rfl) (by simp [eq_nn, q3]; exact rfl) ?_
                refine .cond (t := false) (by simp) (.skip ?_)
                refine .region hX (by kernel_rfl) (by simp; exact rfl) ?_
                refine ⟨_, _, View.two _ [3, 4, 5, 6, 7, 18, 19, 20] [0, 1, 2, 3, 4, 5, 6, 7] 8 (G1 + 3) (by simp) (by simp; exact ⟨rfl, rfl, rfl⟩) (by simp; exact ⟨rfl, rfl, rfl⟩), ?_, j + 1, u, G1 + 3, by omega, rfl, hal, hlen, ?_⟩
                · omega
                · simp [hw1]
      · have : j = t.rs.length := by simp at hc; omega
        subst this
        simp only [List.drop_length, along] at hal
        refine .exit ⟨.inl rfl, ⟨[], [], [], [], [], [], ?_, rfl, .nil _ _, .nil, ?_, rfl, rfl, rfl, ?_⟩⟩
        · rfl
        · intro b hb
          refine ⟨by simp [outB], by simp, ?_⟩
          simp only [List.mem_cons, List.not_mem_nil, or_false] at hb
          rcases hb with rfl | rfl | rfl | rfl | rfl | rfl
          · refine ⟨_, rfl, ⟨0, by simp [hlent, AObj.gen]⟩, fun e' he' a ha => hfree ((Within.agg_iff _).1 (free_tide t ex) a (by simp only [List.mem_cons, List.not_mem_nil, or_false] at he'; subst he'; exact ha))⟩
          · exact ⟨_, rfl, ⟨1, by simp [hlent, AObj.gen]⟩, fun e' he' => by obtain ⟨x, _, rfl⟩ := List.mem_map.1 he'; simp⟩
          · exact ⟨_, rfl, ⟨2, by simp [hlent, AObj.gen]⟩, fun e' he' => by obtain ⟨x, _, rfl⟩ := List.mem_map.1 he'; simp⟩
          · exact ⟨_, rfl, ⟨3, by simp [hlent, AObj.gen]⟩, by simp [ObjIn, hlent]⟩
          · exact ⟨_, rfl, ⟨4, by simp [hlent, AObj.gen]⟩, by simp [ObjIn, hlent]⟩
          · exact ⟨_, rfl, ⟨5, by simp [hlent, AObj.gen]⟩, by simp [ObjIn, hlent]⟩
        · rw [hal, hn, he]
          funext b
          by_cases hb : b ∈ [0, 1, 2, 3, 4, 5]
          · rw [hupd, hupd, if_pos hb]
            simp only [List.mem_cons, List.not_mem_nil, or_false] at hb
            rcases hb with rfl | rfl | rfl | rfl | rfl | rfl
            · simp [hupd, setAt, k0]
            · simp [hupd, setAt]
            · simp [hupd, setAt]
            · simp [hupd, setAt, k3]
            · simp [hupd, setAt, k4]
            · simp [hupd, setAt, k5]
          · simp only [hupd]
            rw [if_neg hb]
            simp only [List.mem_cons, List.not_mem_nil, or_false, not_or] at hb
            simp [setAt, hb.2.1, hb.2.2.1]
    · have := delK_len (has_some hhas)
      simp only [hn]; omega
    · simp [hn, he]

end Go.Proofs.Ytlidakhdcnkabaa
