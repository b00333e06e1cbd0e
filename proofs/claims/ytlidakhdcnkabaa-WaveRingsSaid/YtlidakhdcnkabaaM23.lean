/- Arguments read: a record of the tide. No condition. -/
import Derived.Test.YtlidakhdcnkabaaM09
import Derived.Test.YtlidakhdcnkabaaM10
import Derived.Test.YtlidakhdcnkabaaRows
import Derived.ProofKit
import Derived.Lib.SmallJoins
namespace Go.Proofs.Ytlidakhdcnkabaa
open Go.AI Go.ChangeShapes Go.WideShapes Go.ChangeAt Go.RowKit Go.Joins

theorem own : ownKnob Try.prog.godebug = none := by kernel_rfl
theorem laid : laidOutB Try.prog = true := by kernel_rfl
theorem under55 : Try.prog.underlying 55 = some (.struct #[{ name := "Hour", type := 3, offset := 0, embedded := false, tag := "", pkgPath := "", byteOffset := 0 }, { name := "Value", type := 3, offset := 1, embedded := false, tag := "", pkgPath := "", byteOffset := 8 }]) := by kernel_rfl

theorem ok24 : Try.prog.readableRec 24 = true ∧ 24 < Try.prog.types.size := ⟨by kernel_rfl, of_decide_eq_true (by kernel_rfl)⟩

theorem ok3 : Try.prog.readableRec 3 = true ∧ 3 < Try.prog.types.size := ⟨by kernel_rfl, of_decide_eq_true (by kernel_rfl)⟩
theorem one24 : Go.Deep.oneCellFields Try.prog #[{ name := "Sun", type := 3, offset := 0, embedded := false, tag := "", pkgPath := "", byteOffset := 0 }, { name := "Moon", type := 3, offset := 1, embedded := false, tag := "", pkgPath := "", byteOffset := 8 }, { name := "Readings", type := 22, offset := 2, embedded := false, tag := "", pkgPath := "", byteOffset := 16 }] = true := by kernel_rfl
theorem cells24 : Try.prog.cellsOf 24 = 3 := by kernel_rfl
theorem cells55 : Try.prog.cellsOf 55 = 2 := by kernel_rfl

section
variable {H : Type} {enc : TypeId × Value → H} {W : World} {base : Nat} {spare : Nat → Bool} {held : Bool}

theorem rep_pair {n : Nat} {cs : List Value} {y : DataW H × List MemPlace} (h : DataW.trod enc Try.prog W base spare held n 55 cs = some y) : ∃ xs, (∃ p : Int × Int, xs = [.int .i64 p.1, .int .i64 p.2]) ∧ VReps (Cfg.open W) xs cs := by
  obtain ⟨y0, y1, m, _, hl, h0, h1⟩ := trod_struct2 under55 h
  have h3 : Try.prog.cellsOf 3 = 1 := by kernel_rfl
  rw [cells55] at hl
  obtain ⟨a, b, rfl⟩ := list_two hl
  have h0' : DataW.trod enc Try.prog W base spare held m 3 (([a, b].drop 0).take (Try.prog.cellsOf 3)) = some y0 := h0
  have h1' : DataW.trod enc Try.prog W base spare held m 3 (([a, b].drop 1).take (Try.prog.cellsOf 3)) = some y1 := h1
  rw [h3] at h0' h1'
  obtain ⟨i, h4, _⟩ := rep_int Try.underlying3 h0'
  obtain ⟨j, h5, _⟩ := rep_int Try.underlying3 h1'
  have h4 : a = .int .i64 i := by simpa using h4
  have h5 : b = .int .i64 j := by simpa using h5
  rw [h4, h5]
  exact ⟨_, ⟨(i, j), rfl⟩, vreps_cons (.int _ _) (vreps_cons (.int _ _) vreps_nil)⟩

set_option maxRecDepth 100000 in
theorem rep_tide {r : Reach} {b0 : Nat} {v : Value} {d : DataW H} {p : List MemPlace} (hv : Value.okWide Try.prog W r b0 24 v) (h : DataW.Trod enc Try.prog W base spare held 24 v d p) : ∃ (t : Tide) (ex : Bool), VRep (Cfg.open W) (tideA t ex) v := by
  obtain ⟨v0, v1, v2, y0, y1, y2, n, rfl, _, _, h0, h1, h2⟩ := open_agg3 Try.underlying24 one24 cells24 hv h
  obtain ⟨i, h4, _⟩ := rep_int Try.underlying3 h0
  obtain ⟨j, h5, _⟩ := rep_int Try.underlying3 h1
  have h4 : v0 = .int .i64 i := by simpa using h4
  have h5 : v1 = .int .i64 j := by simpa using h5
  rw [h4, h5]
  obtain ⟨es, ex, hE, hr⟩ := rep_slice (fun xs => ∃ p : Int × Int, xs = [.int .i64 p.1, .int .i64 p.2]) 2 (by omega) Try.underlying22 cells55 (fun _ _ _ hh => rep_pair hh) h2
  have hl : ∃ rs : List (Int × Int), es = rs.map fun x => [.int .i64 x.1, .int .i64 x.2] := by
    clear hr
    induction es with
    | nil => exact ⟨[], rfl⟩
    | cons e es ih =>
      obtain ⟨q, hq⟩ := hE e List.mem_cons_self
      obtain ⟨rs, hrs⟩ := ih fun a ha => hE a (List.mem_cons_of_mem _ ha)
      exact ⟨q :: rs, by rw [hq, hrs]; rfl⟩
  obtain ⟨rs, rfl⟩ := hl
  have h3 : VReps (Cfg.open W) [.int .i64 i, .int .i64 j, .il (rs.map fun x => [.int .i64 x.1, .int .i64 x.2]) ex] [.int .i64 i, .int .i64 j, v2] := vreps_cons (.int _ _) (vreps_cons (.int _ _) (vreps_cons hr vreps_nil))
  exact ⟨⟨i, j, rs⟩, ex, .agg _ _ h3.1 fun i a v h1 h2 => h3.2 i a v h1 (by simpa using h2)⟩
end

end Go.Proofs.Ytlidakhdcnkabaa
