/- Arguments read: a record of the tide. Arguments read: a sky, cells. No condition. -/
import Derived.Test.YtlidakhdcnkabaaM09
import Derived.Test.YtlidakhdcnkabaaM10
import Derived.Test.YtlidakhdcnkabaaRows
import Derived.ProofKit
import Derived.Lib.SmallJoins
import Derived.Test.YtlidakhdcnkabaaM23
import Derived.OpenShut
namespace Go.Proofs.Ytlidakhdcnkabaa
open Go.AI Go.ChangeShapes Go.WideShapes Go.ChangeAt Go.RowKit Go.Joins

theorem own : ownKnob Try.prog.godebug = none := by kernel_rfl
theorem laid : laidOutB Try.prog = true := by kernel_rfl
theorem under55 : Try.prog.underlying 55 = some (.struct #[{ name := "Hour", type := 3, offset := 0, embedded := false, tag := "", pkgPath := "", byteOffset := 0 }, { name := "Value", type := 3, offset := 1, embedded := false, tag := "", pkgPath := "", byteOffset := 8 }]) := by kernel_rfl

theorem ok24 : Try.prog.readableRec 24 = true ∧ 24 < Try.prog.types.size := ⟨by kernel_rfl, of_decide_eq_true (by kernel_rfl)⟩

theorem ok3 : Try.prog.readableRec 3 = true ∧ 3 < Try.prog.types.size := ⟨by kernel_rfl, of_decide_eq_true (by kernel_rfl)⟩
theorem one24 : Go.Deep.oneCellFields Try.prog #[{ name := "Sun", type := 3, offset := 0, embedded := false, tag := "", pkgPath := "", byteOffset := 0 }, { name := "Moon", type := 3, offset := 1, embedded := false, tag := "", pkgPath := "", byteOffset := 8 }, { name := "Readings", type := 22, offset := 2, embedded := false, tag := "", pkgPath := "", byteOffset := 16 }] = true := by kernel_rfl
theorem cells24 : Try.prog.cellsOf 24 = 3 := by kernel_rfl
theorem cells55 : Try.prog.cellsOf 55 = 2 := by kernel_rfl

section
variable {H : Type} {enc : TypeId × Value → H} {W : World} {base : Nat} {spare : Nat → Bool} {held : Bool}

theorem rep_pair {n : Nat} {cs : List Value} {y : DataW H × List MemPlace} (h : DataW.trod enc Try.prog W base spare held n 55 cs = some y) : ∃ xs, (∃ p : Int × Int, xs = [.int .i64 p.1, .int .i64 p.2]) ∧ VReps (Cfg.open W) xs cs := by
  obtain ⟨y0, y1, m, _, hl, h0, h1⟩ := trod_struct2 under55 h
  have h3 : Try.prog.cellsOf 3 = 1 := by kernel_rfl
  rw [cells55] at hl
  obtain ⟨a, b, rfl⟩ := list_two hl
  have h0' : DataW.trod enc Try.prog W base spare held m 3 (([a, b].drop 0).take (Try.prog.cellsOf 3)) = some y0 := h0
  have h1' : DataW.trod enc Try.prog W base spare held m 3 (([a, b].drop 1).take (Try.prog.cellsOf 3)) = some y1 := h1
  rw [h3] at h0' h1'
  obtain ⟨i, h4, _⟩ := rep_int Try.underlying3 h0'
  obtain ⟨j, h5, _⟩ := rep_int Try.underlying3 h1'
  have h4 : a = .int .i64 i := by simpa using h4
  have h5 : b = .int .i64 j := by simpa using h5
  rw [h4, h5]
  exact ⟨_, ⟨(i, j), rfl⟩, vreps_cons (.int _ _) (vreps_cons (.int _ _) vreps_nil)⟩

set_option maxRecDepth 100000 in
theorem rep_tide {r : Reach} {b0 : Nat} {v : Value} {d : DataW H} {p : List MemPlace} (hv : Value.okWide Try.prog W r b0 24 v) (h : DataW.Trod enc Try.prog W base spare held 24 v d p) : ∃ (t : Tide) (ex : Bool), VRep (Cfg.open W) (tideA t ex) v := by
  obtain ⟨v0, v1, v2, y0, y1, y2, n, rfl, _, _, h0, h1, h2⟩ := open_agg3 Try.underlying24 one24 cells24 hv h
  obtain ⟨i, h4, _⟩ := rep_int Try.underlying3 h0
  obtain ⟨j, h5, _⟩ := rep_int Try.underlying3 h1
  have h4 : v0 = .int .i64 i := by simpa using h4
  have h5 : v1 = .int .i64 j := by simpa using h5
  rw [h4, h5]
  obtain ⟨es, ex, hE, hr⟩ := rep_slice (fun xs => ∃ p : Int × Int, xs = [.int .i64 p.1, .int .i64 p.2]) 2 (by omega) Try.underlying22 cells55 (fun _ _ _ hh => rep_pair hh) h2
  have hl : ∃ rs : List (Int × Int), es = rs.map fun x => [.int .i64 x.1, .int .i64 x.2] := by
    clear hr
    induction es with
    | nil => exact ⟨[], rfl⟩
    | cons e es ih =>
      obtain ⟨q, hq⟩ := hE e List.mem_cons_self
      obtain ⟨rs, hrs⟩ := ih fun a ha => hE a (List.mem_cons_of_mem _ ha)
      exact ⟨q :: rs, by rw [hq, hrs]; rfl⟩
  obtain ⟨rs, rfl⟩ := hl
  have h3 : VReps (Cfg.open W) [.int .i64 i, .int .i64 j, .il (rs.map fun x => [.int .i64 x.1, .int .i64 x.2]) ex] [.int .i64 i, .int .i64 j, v2] := vreps_cons (.int _ _) (vreps_cons (.int _ _) (vreps_cons hr vreps_nil))
  exact ⟨⟨i, j, rs⟩, ex, .agg _ _ h3.1 fun i a v h1 h2 => h3.2 i a v h1 (by simpa using h2)⟩
end

end Go.Proofs.Ytlidakhdcnkabaa

namespace Go.Proofs.Ytlidakhdcnkabaa
open Go.AI Go.ChangeShapes Go.WideShapes Go.ChangeAt Go.RowKit Go.Joins

theorem ok48 : Try.prog.readableRec 48 = true ∧ 48 < Try.prog.types.size := ⟨by kernel_rfl, of_decide_eq_true (by kernel_rfl)⟩
theorem ok49 : Try.prog.readableRec 49 = true ∧ 49 < Try.prog.types.size := ⟨by kernel_rfl, of_decide_eq_true (by kernel_rfl)⟩
theorem ok51 : Try.prog.readableRec 51 = true ∧ 51 < Try.prog.types.size := ⟨by kernel_rfl, of_decide_eq_true (by kernel_rfl)⟩
theorem ok5 : Try.prog.readableRec 5 = true ∧ 5 < Try.prog.types.size := ⟨by kernel_rfl, of_decide_eq_true (by kernel_rfl)⟩
theorem cells5 : Try.prog.cellsOf 5 = 1 := by kernel_rfl
theorem cells48 : Try.prog.cellsOf 48 = 1 := by kernel_rfl
theorem cells49 : Try.prog.cellsOf 49 = 10 := by kernel_rfl
theorem cells51 : Try.prog.cellsOf 51 = 14 := by kernel_rfl

theorem vreps_append {C : Cfg} {xs ys : List AVal} {vs ws : List Value} (h : VReps C xs vs) (h' : VReps C ys ws) : VReps C (xs ++ ys) (vs ++ ws) := by
  induction xs generalizing vs with
  | nil =>
    have := h.1
    cases vs with
    | nil => exact h'
    | cons v vs => simp at this
  | cons a xs ih =>
    have hl := h.1
    cases vs with
    | nil => simp at hl
    | cons v vs => exact vreps_cons (h.2 0 a v rfl rfl) (ih ⟨by simpa using hl, fun i b w h1 h2 => h.2 (i + 1) b w (by simpa using h1) (by simpa using h2)⟩)

theorem vreps_u8 {C : Cfg} : ∀ w : List Int, VReps C (w.map fun n => AVal.int .u8 n) (w.map fun n => Value.int .u8 n)
  | [] => vreps_nil
  | _ :: w => vreps_cons (.int _ _) (vreps_u8 w)

theorem list_14 {α : Type} {l : List α} (h : l.length = 14) : ∃ a b c w x, w.length = 10 ∧ l = [a, b, c] ++ w ++ [x] ∧ (l.drop 0).take 1 = [a] ∧ (l.drop 1).take 1 = [b] ∧ (l.drop 2).take 1 = [c] ∧ (l.drop 3).take 10 = w ∧ (l.drop 13).take 1 = [x] := by
  match l, h with
  | [a, b, c, d0, d1, d2, d3, d4, d5, d6, d7, d8, d9, x], _ => exact ⟨a, b, c, [d0, d1, d2, d3, d4, d5, d6, d7, d8, d9], x, rfl, rfl, rfl, rfl, rfl, rfl, rfl⟩

section
variable {H : Type} {enc : TypeId × Value → H} {W : World} {base : Nat} {spare : Nat → Bool} {held : Bool}

theorem u8_wf {n : Int} (h : (Lit.int .u8 n).wf = true) : u8 n := by
  have h1 : IntKind.u8.min = 0 := rfl
  have h2 : IntKind.u8.max = 255 := rfl
  simp only [Lit.wf, h1, h2, Bool.and_eq_true, decide_eq_true_eq] at h
  exact h

theorem rep_u8 {n : Nat} {c : Value} {x : DataW H × List MemPlace} (h : DataW.trod enc Try.prog W base spare held n 5 [c] = some x) : ∃ m, u8 m ∧ c = .int .u8 m := by
  obtain ⟨m, h1, h2⟩ := rep_int Try.underlying5 h
  exact ⟨m, u8_wf h2, by simpa using h1⟩

theorem rep_bytes0 {n : Nat} {v : Value} {x : DataW H × List MemPlace} (h : DataW.trod enc Try.prog W base spare held n 48 [v] = some x) : ∃ (l : List Int) (ex : Bool), (∀ n ∈ l, u8 n) ∧ VRep (Cfg.open W) (.il (bytes l) ex) v := by
  obtain ⟨es, ex, hE, hr⟩ := rep_slice (fun xs => ∃ n : Int, u8 n ∧ xs = [.int .u8 n]) 1 (by omega) Try.underlying48 cells5 (fun _ cs _ hh => by
    obtain ⟨n, h1, h2⟩ := rep_int Try.underlying5 hh
    subst h1
    exact ⟨_, ⟨n, u8_wf h2, rfl⟩, vreps_cons (.int _ _) vreps_nil⟩) h
  have hl : ∃ l : List Int, (∀ n ∈ l, u8 n) ∧ es = bytes l := by
    clear hr
    induction es with
    | nil => exact ⟨[], by simp, rfl⟩
    | cons e es ih =>
      obtain ⟨q, hq0, hq⟩ := hE e List.mem_cons_self
      obtain ⟨rs, hrs0, hrs⟩ := ih fun a ha => hE a (List.mem_cons_of_mem _ ha)
      exact ⟨q :: rs, fun n hn => by rcases List.mem_cons.1 hn with rfl | hn; exact hq0; exact hrs0 n hn, by rw [hq, hrs]; rfl⟩
  obtain ⟨l, hl0, rfl⟩ := hl
  exact ⟨l, ex, hl0, hr⟩

theorem rep_ten0 {n : Nat} {l : List Value} {x : DataW H × List MemPlace} (hl : l.length = 10) (h : DataW.trod enc Try.prog W base spare held n 49 l = some x) : ∃ w : List Int, w.length = 10 ∧ (∀ n ∈ w, u8 n) ∧ l = w.map fun n => Value.int .u8 n := by
  obtain ⟨xs, m, _, _, _, hxl, hx⟩ := DataW.trod_array Try.underlying49 h
  have each : ∀ i, i < 10 → ∃ n, u8 n ∧ l[i]? = some (.int .u8 n) := by
    intro i hi
    have h1 := hx i hi
    rw [cells5, List.getElem?_eq_getElem (by omega), Nat.mul_one] at h1
    have h2 : (l.drop i).take 1 = [l[i]'(by omega)] := by
      rw [List.drop_eq_getElem_cons (by omega)]; rfl
    rw [h2] at h1
    obtain ⟨n, h3, h4⟩ := rep_u8 h1
    exact ⟨n, h3, by rw [List.getElem?_eq_getElem (by omega), h4]⟩
  obtain ⟨f, hf⟩ := Go.Deep.choose_lt each
  refine ⟨(List.range 10).map f, by simp, fun n hn => ?_, ?_⟩
  · obtain ⟨i, hi, rfl⟩ := List.mem_map.1 hn
    exact (hf i (List.mem_range.1 hi)).1
  · apply List.ext_getElem?
    intro i
    by_cases hi : i < 10
    · rw [(hf i hi).2, List.getElem?_map, List.getElem?_map, List.getElem?_range hi]; rfl
    · rw [List.getElem?_eq_none (by omega), List.getElem?_eq_none (by simp; omega)]

set_option maxRecDepth 100000 in
theorem rep_bytes {r : Reach} {b0 : Nat} {v : Value} {d : DataW H} {p : List MemPlace} (hv : Value.okWide Try.prog W r b0 48 v) (h : DataW.Trod enc Try.prog W base spare held 48 v d p) : ∃ (l : List Int) (ex : Bool), (∀ n ∈ l, u8 n) ∧ VRep (Cfg.open W) (.il (bytes l) ex) v := by
  obtain ⟨a0, l0, c0, rfl⟩ := okWide_slice Try.underlying48 hv
  obtain ⟨fuel, hf⟩ := h
  exact rep_bytes0 hf

set_option maxRecDepth 100000 in
theorem rep_sky {r : Reach} {b0 : Nat} {v : Value} {d : DataW H} {p : List MemPlace} (hv : Value.okWide Try.prog W r b0 51 v) (h : DataW.Trod enc Try.prog W base spare held 51 v d p) : ∃ (s : Sky) (eh ew : Bool), s.Ok ∧ VRep (Cfg.open W) (.agg (skyC s eh ew)) v := by
  obtain ⟨cs, rfl, hsz⟩ := okWide_struct Try.underlying51 hv
  rw [cells51] at hsz
  obtain ⟨fuel, hf⟩ := h
  have hf' : DataW.trod enc Try.prog W base spare held fuel 51 cs.toList = some (d, p) := hf
  obtain ⟨xs, n, _, _, _, hxl, hx⟩ := DataW.trod_struct Try.underlying51 hf'
  have hxl' : xs.length = 5 := hxl
  obtain ⟨c0, c1, c2, w, c13, hw, hcs, t0, t1, t2, t3, t13⟩ := list_14 (l := cs.toList) (by simpa using hsz)
  have g0 : DataW.trod enc Try.prog W base spare held n 5 ((cs.toList.drop 0).take (Try.prog.cellsOf 5)) = xs[0]? := hx 0 _ rfl
  have g1 : DataW.trod enc Try.prog W base spare held n 5 ((cs.toList.drop 1).take (Try.prog.cellsOf 5)) = xs[1]? := hx 1 _ rfl
  have g2 : DataW.trod enc Try.prog W base spare held n 48 ((cs.toList.drop 2).take (Try.prog.cellsOf 48)) = xs[2]? := hx 2 _ rfl
  have g3 : DataW.trod enc Try.prog W base spare held n 49 ((cs.toList.drop 3).take (Try.prog.cellsOf 49)) = xs[3]? := hx 3 _ rfl
  have g4 : DataW.trod enc Try.prog W base spare held n 48 ((cs.toList.drop 13).take (Try.prog.cellsOf 48)) = xs[4]? := hx 4 _ rfl
  rw [cells5, t0, List.getElem?_eq_getElem (by omega)] at g0
  rw [cells5, t1, List.getElem?_eq_getElem (by omega)] at g1
  rw [cells48, t2, List.getElem?_eq_getElem (by omega)] at g2
  rw [cells49, t3, List.getElem?_eq_getElem (by omega)] at g3
  rw [cells48, t13, List.getElem?_eq_getElem (by omega)] at g4
  obtain ⟨a, ha, e0⟩ := rep_u8 g0
  obtain ⟨b, hb, e1⟩ := rep_u8 g1
  obtain ⟨hs, eh, hh, r2⟩ := rep_bytes0 g2
  obtain ⟨ws, hwl, hwu, e3⟩ := rep_ten0 hw g3
  obtain ⟨wr, ew, hwr, r4⟩ := rep_bytes0 g4
  have hR : VReps (Cfg.open W) (skyC ⟨a, b, hs, ws, wr⟩ eh ew) cs.toList := by
    rw [hcs, e0, e1, e3]
    exact vreps_append (vreps_append (vreps_cons (.int _ _) (vreps_cons (.int _ _) (vreps_cons r2 vreps_nil))) (vreps_u8 ws)) (vreps_cons r4 vreps_nil)
  exact ⟨⟨a, b, hs, ws, wr⟩, eh, ew, ⟨ha, hb, hh, hwu, hwr, hwl⟩, .agg _ _ (by rw [hR.1]; simp) fun i a v h1 h2 => hR.2 i a v h1 (by simpa using h2)⟩
end

end Go.Proofs.Ytlidakhdcnkabaa
