/- The row of WaveRings, proved. No condition. -/
import Derived.Test.YtlidakhdcnkabaaM22
import Derived.Test.YtlidakhdcnkabaaM23
import Derived.Test.YtlidakhdcnkabaaRows
namespace Go.Proofs.Ytlidakhdcnkabaa
open Go.AI Go.ChangeShapes Go.WideShapes Go.ChangeAt Go.RowKit Go.Joins

theorem ok30 : Try.prog.readableRec 30 = true ∧ 30 < Try.prog.types.size := ⟨by kernel_rfl, of_decide_eq_true (by kernel_rfl)⟩
theorem cells3 : Try.prog.cellsOf 3 = 1 := by kernel_rfl

section
variable {H : Type} {enc : TypeId × Value → H} {W : World} {base : Nat} {spare : Nat → Bool} {held : Bool}

set_option maxRecDepth 100000 in
theorem rep_ints {r : Reach} {b0 : Nat} {v : Value} {d : DataW H} {p : List MemPlace} (hv : Value.okWide Try.prog W r b0 30 v) (h : DataW.Trod enc Try.prog W base spare held 30 v d p) : ∃ (l : List Int) (ex : Bool), VRep (Cfg.open W) (.il (ints l) ex) v := by
  obtain ⟨a0, l0, c0, rfl⟩ := okWide_slice Try.underlying30 hv
  obtain ⟨fuel, hf⟩ := h
  have hf' : DataW.trod enc Try.prog W base spare held fuel 30 [.slice a0 l0 c0] = some (d, p) := hf
  obtain ⟨es, ex, hE, hr⟩ := rep_slice (fun xs => ∃ n : Int, xs = [.int .i64 n]) 1 (by omega) Try.underlying30 cells3 (fun _ cs _ hh => by
    obtain ⟨n, h1, _⟩ := rep_int Try.underlying3 hh
    subst h1
    exact ⟨_, ⟨n, rfl⟩, vreps_cons (.int _ _) vreps_nil⟩) hf'
  have hl : ∃ l : List Int, es = ints l := by
    clear hr
    induction es with
    | nil => exact ⟨[], rfl⟩
    | cons e es ih =>
      obtain ⟨q, hq⟩ := hE e List.mem_cons_self
      obtain ⟨rs, hrs⟩ := ih fun a ha => hE a (List.mem_cons_of_mem _ ha)
      exact ⟨q :: rs, by rw [hq, hrs]; rfl⟩
  obtain ⟨l, rfl⟩ := hl
  exact ⟨l, ex, hr⟩
end

set_option maxRecDepth 100000 in
theorem waveRings_lifted (os : Os) (started : os.Started) (H : Type) (enc : TypeId × Value → H) :
    ReturnsInHanded {} Try.checked os 4 .any (Rows.waveRingsSpec.pre6 enc Try.prog Try.f4 Rows.waveRingsRow.domain false) (Rows.waveRingsSpec.post enc Try.prog Try.f4 false true false false) := by
  refine returnsInHanded_of_change (C := Try.checked) own started (by kernel_rfl) Try.func4
    (ChangeSpec.witness6 (enc := enc) (C := Try.checked) false ⟨#[], #[.agg #[.int .i64 0, .int .i64 0, .slice none 0 0], .slice none 0 0], []⟩ 8 (by kernel_rfl) (by kernel_rfl) (by kernel_rfl) (by kernel_rfl)) ?_
  intro W base args ds gs before hval0 hW hcnd _
  have hval : ∀ (j : Nat) t v, Try.f4.params[j]? = some t → args[j]? = some v → Value.okWide Try.prog W .any base t v := hval0
  have hW' := hW
  obtain ⟨p, q, hA0, hV, rfl, hfz, hnd⟩ := hW
  have hA : DataW.TrodAll enc Try.prog W 0 (fun _ => true) true Try.f4.params.toList args.toList ds p := hA0
  rw [Try.params4] at hA hval
  obtain ⟨v0, v1, d0, d1, p0, p1, rfl, rfl, rfl, h0, h1⟩ := trodAll_two hA
  obtain ⟨rfl, rfl⟩ := trodVars_none hV
  obtain ⟨t, ex, hr⟩ := rep_tide (hval 0 24 v0 rfl rfl) h0
  obtain ⟨l, ex1, hr1⟩ := rep_ints (hval 1 30 v1 rfl rfl) h1
  refine (law_calls law4_sound (xs := [tideA t ex, .il (ints l) ex1]) (vreps_cons hr (vreps_cons hr1 vreps_nil)) (by simp [law4S])).mono fun e W' ⟨he, hb⟩ => ?_
  subst he
  exact ⟨_, rfl, post_law laid rfl (by kernel_rfl) Try.underlying4 (by rw [Try.params4]; exact all_two ok24 ok30) rfl hW' hb⟩

theorem waveRings_holds : Rows.WaveRingsSaid :=
  OpenClaim.holds_of_wide 4 Try.f4 rfl rfl rfl rfl rfl rfl rfl ⟨rfl, rfl, rfl, rfl, rfl⟩ rfl rfl rfl rfl rfl (by kernel_rfl) Try.func4 (by kernel_rfl)
    (of_decide_eq_true (by kernel_rfl)) (by unfold Func.isWrapper; first | (rw [if_pos (by decide +kernel)]; kernel_rfl) | (rw [if_neg (by decide +kernel)]; exact ⟨rfl, rfl⟩))
    (fun os started H enc _ => waveRings_lifted os started H enc)

end Go.Proofs.Ytlidakhdcnkabaa
