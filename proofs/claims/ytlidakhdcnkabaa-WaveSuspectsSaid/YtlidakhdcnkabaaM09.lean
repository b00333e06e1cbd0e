/- From a contract to a row: what a law's statement asks; readings of arguments. No condition. -/
import Derived.Test.YtlidakhdcnkabaaM08
import Derived.ProofKit
import Derived.Deep.SlicePairs
namespace Go.AI
open Go.ChangeShapes Go.WideShapes Go.RowKit

section
variable {H : Type} {enc : TypeId × Value → H} {P : Program}

theorem trodAll_below (hl : laidOutB P = true) {W W' : World} (hb : Below W.heap.size W W') : ∀ {ts : List TypeId} {vs : List Value} {ds : List (DataW H)} {ps : List MemPlace}, (∀ t ∈ ts, P.readableRec t = true ∧ t < P.types.size) → (∀ p ∈ ps, p.block < W.heap.size) →
    DataW.TrodAll enc P W 0 (fun _ => true) true ts vs ds ps → DataW.TrodAll enc P W' 0 (fun b => decide (b < W.heap.size)) true ts vs ds ps
  | [], _, _, _, _, _, h => by
    obtain ⟨rfl, rfl, rfl⟩ := trodAll_nil h
    exact trodAll_mk0
  | t :: ts, _, _, _, hp, hlt, h => by
    obtain ⟨v, vs, d, ds, p, q, rfl, rfl, rfl, h1, h2⟩ := trodAll_cons h
    obtain ⟨hr, hz⟩ := hp t List.mem_cons_self
    exact ⟨p, q, Below.trod hl hr hz h1 hb fun x hx => hlt x (List.mem_append_left _ hx), trodAll_below hl hb (fun t ht => hp t (List.mem_cons_of_mem _ ht)) (fun x hx => hlt x (List.mem_append_right _ hx)) h2, rfl⟩

/-- What a law's row asks of the end: true; the arguments as they were. -/
theorem post_law {f : Func} {s : ChangeSpec} {apart fresh : Bool} {W W' : World} {args : Array Value} {ds : List (DataW H)} {ps : List MemPlace} {t : TypeId} (hl : laidOutB P = true) (hvars : s.vars = []) (hres : f.resultTypes = #[t]) (htb : P.underlying t = some .bool)
    (hpar : ∀ t ∈ f.params.toList, P.readableRec t = true ∧ t < P.types.size) (hfn : s.fn H ds = { results := [.lit (.bool true)], args := ds }) (hW : DataW.Whole enc P f.params.toList s.vars apart W args.toList ds [] ps) (hb : Below W.heap.size W W') :
    s.post enc P f apart fresh false false W args (.bool true) W' := by
  have hlt : ∀ p ∈ ps, p.block < W.heap.size := fun p hp => hW.lt p hp
  obtain ⟨p, q, hA, hV, rfl, hz, hn⟩ := id hW
  have hq : q = [] := by rw [hvars] at hV; exact (trodVars_none hV).2
  subst hq
  refine ⟨ds, [], p ++ [], [], p, [], hW, ?_, ?_, ?_, ?_, fun h => by cases h⟩
  · rw [List.append_nil, hfn, hres]
    exact trodAll_mk1 (shut_bool htb true)
  · rw [List.append_nil, hfn]
    exact trodAll_below hl hb hpar (fun x hx => hlt x (by simpa using hx)) hA
  · rw [List.append_nil, hfn, hvars]
    rfl
  · exact World.keptBut_mono (fun x hx => ⟨hx, .inr (.inl (by simpa using hx))⟩) (hb.frame (· ∈ p ++ []))
end

theorem vreps_nil {C : Cfg} : VReps C [] [] := ⟨rfl, fun _ _ _ h => by simp at h⟩
theorem vreps_cons {C : Cfg} {a : AVal} {v : Value} {as : List AVal} {vs : List Value} (h : VRep C a v) (h' : VReps C as vs) : VReps C (a :: as) (v :: vs) := by
  refine ⟨by simp [h'.1], fun i b w h1 h2 => ?_⟩
  cases i with
  | zero =>
    simp only [List.getElem?_cons_zero, Option.some.injEq] at h1 h2
    subst h1; subst h2; exact h
  | succ i => exact h'.2 i b w h1 h2

theorem list_two {α : Type} {l : List α} (h : l.length = 2) : ∃ a b, l = [a, b] := by
  match l, h with
  | [a, b], _ => exact ⟨a, b, rfl⟩

theorem all_one {α : Type} {a : α} {p : α → Prop} (h : p a) : ∀ t ∈ [a], p t := by simpa using h
theorem all_two {α : Type} {a b : α} {p : α → Prop} (h : p a) (h' : p b) : ∀ t ∈ [a, b], p t := by simpa using ⟨h, h'⟩
theorem all_four {α : Type} {a b c d : α} {p : α → Prop} (h : p a) (h' : p b) (h2 : p c) (h3 : p d) : ∀ t ∈ [a, b, c, d], p t := by simpa using ⟨h, h', h2, h3⟩

/-- A law's contract, as its row wants it. -/
theorem law_calls {P : Program} {f : FuncId} {S : FSpec} (hs : FSound P f S) {W : World} {xs : List AVal} {args : Array Value} (hr : VReps (Cfg.open W) xs args.toList) (hrun : (S xs 0 0).run (fun _ => none) = some ⟨.bool true, [], 0, 0⟩) :
    Calls P f args W fun e W' => e = .returned (.bool true) ∧ Below W.heap.size W W' := by
  obtain ⟨_, hc⟩ := hs (Cfg.open W) xs args 0 0 _ (open_valid W) hr (fun g h1 h2 => by simp only at h2; omega) hrun
  refine hc.mono fun e W' hh => ?_
  obtain ⟨C', v, rfl, rfl, hv, hst⟩ := hh
  have hvb : v = .bool true := by cases hv; rfl
  have hno : ∀ B, ¬ (Cfg.open W).owned B := fun B ⟨_, _, _, h, _⟩ => by cases h
  exact ⟨by rw [hvb], ⟨hst.fr.os, hst.fr.tape, hst.fr.output, hst.fr.size, fun k hk => hst.fr.same k hk (hno k)⟩⟩

/-! ### Readings -/
section
variable {H : Type} {enc : TypeId × Value → H} {P : Program} {W : World} {base : Nat} {spare : Nat → Bool} {held : Bool}

theorem open_safe (W : World) (B o : Nat) : (Cfg.open W).safe B o := ⟨fun h => h, fun _ _ _ h => by cases h⟩

theorem spot_none {a : Addr} {v : Value} (h : W.cell? a = some v) : a.spot = none := by
  unfold World.cell? at h
  split at h
  · split at h
    · cases h
    · rename_i hs
      cases hh : a.spot with
      | none => rfl
      | some x => rw [hh] at hs; simp at hs
  · cases h

theorem cell_add {a : Addr} (h : a.spot = none) (n : Nat) : W.cell? (a.add n) = W.cell? { block := a.block, off := a.off + n } := by
  cases a
  simp only at h
  subst h
  unfold Addr.add
  by_cases hn : n = 0 <;> simp [hn]

/-- A slice of elements of so many cells, each of which stands for something. -/
theorem rep_slice {t e : TypeId} {fuel : Nat} {v : Value} {x : DataW H × List MemPlace} (E : List AVal → Prop) (sz : Nat) (hsz : 0 < sz) (ht : P.underlying t = some (.slice e)) (hce : P.cellsOf e = sz)
    (helem : ∀ (n : Nat) (cs : List Value) (y : DataW H × List MemPlace), DataW.trod enc P W base spare held n e cs = some y → ∃ xs, E xs ∧ VReps (Cfg.open W) xs cs)
    (h : DataW.trod enc P W base spare held fuel t [v] = some x) : ∃ es ex, (∀ a ∈ es, E a) ∧ VRep (Cfg.open W) (.il es ex) v := by
  rcases Go.Deep.open_slice ht h with ⟨h1, _⟩ | ⟨a, len, cap, m, n, D, Pl, h1, _, hl, hm, hmm, _, hx⟩
  · cases h1
    exact ⟨[], true, by simp, .il [] true none 0 0 0 0 (fun _ _ => undef) (Nat.le_refl _) (fun _ => rfl) (Nat.zero_le _) (fun h => absurd rfl h) (by simp) (by simp) (by simp)⟩
  · cases h1
    have hlm : len ≤ m := by rw [hmm]; split <;> omega
    have each : ∀ i, i < len → ∃ q : List AVal × List Value, E q.1 ∧ q.1.length = sz ∧ VReps (Cfg.open W) q.1 q.2 ∧ ∀ j, j < sz → W.cell? (a.add (i * sz + j)) = q.2[j]? := by
      intro i hi
      obtain ⟨cs, h2, h3⟩ := hx i (by omega)
      rw [hce] at h2
      obtain ⟨_, hlen, hcell⟩ := World.cells?_some h2
      obtain ⟨xs, he, hr⟩ := helem n cs _ h3
      exact ⟨(xs, cs), he, hr.1.trans hlen, hr, fun j hj => by rw [← Go.Deep.add_add]; exact hcell j hj⟩
    obtain ⟨q, hq⟩ := Go.Deep.choose_lt each
    have hspot : 0 < len → a.spot = none := by
      intro hp
      obtain ⟨_, h2, h3, h4⟩ := hq 0 hp
      have h5 : W.cell? a = (q 0).2[0]? := by have := h4 0 hsz; simpa [Addr.add] using this
      have hl2 : (q 0).2.length = sz := by rw [← h3.1]; exact h2
      rw [List.getElem?_eq_getElem (by omega)] at h5
      exact spot_none h5
    have hlen : ((List.range len).map fun i => (q i).1).length = len := by simp
    refine ⟨(List.range len).map fun i => (q i).1, false, fun xs hxs => ?_, ?_⟩
    · obtain ⟨i, hi, rfl⟩ := List.mem_map.1 hxs
      exact (hq i (List.mem_range.1 hi)).1
    · have := VRep.il (C := Cfg.open W) ((List.range len).map fun i => (q i).1) false (some a) cap a.block a.off sz (fun i j => ((q i).2[j]?).getD undef) (by rw [hlen]; exact hl) (by simp) hm ?_ ?_ ?_ ?_
      · rw [hlen] at this; exact this
      · intro hne
        have hp : 0 < len := by
          cases len with
          | zero => simp at hne
          | succ n => omega
        have := hspot hp
        cases a
        simp only at this
        subst this
        rfl
      · intro e he
        obtain ⟨i, hi, rfl⟩ := List.mem_map.1 he
        exact (hq i (List.mem_range.1 hi)).2.1
      · intro i j e x hi hj
        rw [List.getElem?_map] at hi
        by_cases hil : i < len
        · rw [List.getElem?_range hil] at hi
          simp only [Option.map_some, Option.some.injEq] at hi
          subst hi
          obtain ⟨_, h2, h3, _⟩ := hq i hil
          have hjl : j < sz := by rw [← h2]; exact (List.getElem?_eq_some_iff.1 hj).1
          have hl2 : (q i).2.length = sz := by rw [← h3.1]; exact h2
          refine h3.2 j x _ hj ?_
          rw [List.getElem?_eq_getElem (by omega)]; rfl
        · rw [List.getElem?_eq_none (by simp; omega)] at hi
          cases hi
      · intro i j e x hi hj
        rw [List.getElem?_map] at hi
        by_cases hil : i < len
        · rw [List.getElem?_range hil] at hi
          simp only [Option.map_some, Option.some.injEq] at hi
          subst hi
          obtain ⟨_, h2, h3, h4⟩ := hq i hil
          have hjl : j < sz := by rw [← h2]; exact (List.getElem?_eq_some_iff.1 hj).1
          have hl2 : (q i).2.length = sz := by rw [← h3.1]; exact h2
          have h5 := h4 j hjl
          have hs := hspot (by omega)
          refine ⟨?_, open_safe _ _ _⟩
          rw [cell_add hs] at h5
          rw [List.getElem?_eq_getElem (by omega)] at h5 ⊢
          simp only [Option.getD_some]
          exact h5
        · rw [List.getElem?_eq_none (by simp; omega)] at hi
          cases hi

theorem rep_int {k : IntKind} {t : TypeId} {fuel : Nat} {cs : List Value} {x : DataW H × List MemPlace} (ht : P.underlying t = some (.int k)) (h : DataW.trod enc P W base spare held fuel t cs = some x) : ∃ n, cs = [.int k n] ∧ (Lit.int k n).wf = true := by
  obtain ⟨n, h1, _, h2⟩ := DataW.trod_int ht h
  exact ⟨n, h1, h2⟩
end

end Go.AI
