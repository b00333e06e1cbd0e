/- The row of WaveSuspects, proved. No condition. -/
import Derived.Test.YtlidakhdcnkabaaM26
import Derived.Test.YtlidakhdcnkabaaM24
import Derived.Test.YtlidakhdcnkabaaRows
namespace Go.Proofs.Ytlidakhdcnkabaa
open Go.AI Go.ChangeShapes Go.WideShapes Go.ChangeAt Go.RowKit Go.Joins

theorem all_three {α : Type} {a b c : α} {p : α → Prop} (h : p a) (h' : p b) (h2 : p c) : ∀ t ∈ [a, b, c], p t := by simpa using ⟨h, h', h2⟩

set_option maxRecDepth 100000 in
theorem waveSuspects_lifted (os : Os) (started : os.Started) (H : Type) (enc : TypeId × Value → H) :
    ReturnsInHanded {} Try.checked os 9 .any (Rows.waveSuspectsSpec.pre6 enc Try.prog Try.f9 Rows.waveSuspectsRow.domain false) (Rows.waveSuspectsSpec.post enc Try.prog Try.f9 false true false false) := by
  refine returnsInHanded_of_change (C := Try.checked) own started (by kernel_rfl) Try.func9
    (ChangeSpec.witness6 (enc := enc) (C := Try.checked) false ⟨#[], #[.agg #[.int .u8 0, .int .u8 0, .slice none 0 0, .int .u8 0, .int .u8 0, .int .u8 0, .int .u8 0, .int .u8 0, .int .u8 0, .int .u8 0, .int .u8 0, .int .u8 0, .int .u8 0, .slice none 0 0], .int .u8 0, .int .u8 0], []⟩ 8 (by kernel_rfl) (by kernel_rfl) (by kernel_rfl) (by kernel_rfl)) ?_
  intro W base args ds gs before hval0 hW hcnd _
  have hval : ∀ (j : Nat) t v, Try.f9.params[j]? = some t → args[j]? = some v → Value.okWide Try.prog W .any base t v := hval0
  have hW' := hW
  obtain ⟨p, q, hA0, hV, rfl, hfz, hnd⟩ := hW
  have hA : DataW.TrodAll enc Try.prog W 0 (fun _ => true) true Try.f9.params.toList args.toList ds p := hA0
  rw [Try.params9] at hA hval
  obtain ⟨v0, v1, v2, d0, d1, d2, p0, p1, p2, rfl, rfl, rfl, h0, h1, h2⟩ := trodAll_three hA
  obtain ⟨rfl, rfl⟩ := trodVars_none hV
  obtain ⟨sk, eh, ew, ok, hr⟩ := rep_sky (hval 0 51 v0 rfl rfl) h0
  obtain ⟨a, rfl, rfl, rfl, wa⟩ := open_int Try.underlying5 (hval 1 5 v1 rfl rfl) h1
  obtain ⟨b, rfl, rfl, rfl, wb⟩ := open_int Try.underlying5 (hval 2 5 v2 rfl rfl) h2
  refine (law_calls law9_sound (xs := [.agg (skyC sk eh ew), .int .u8 a, .int .u8 b]) (vreps_cons hr (vreps_cons (.int _ _) (vreps_cons (.int _ _) vreps_nil))) (by rw [law9_at ok eh ew (u8_wf wa) (u8_wf wb)]; rfl)).mono fun e W' ⟨he, hb⟩ => ?_
  subst he
  exact ⟨_, rfl, post_law laid rfl (by kernel_rfl) Try.underlying4 (by rw [Try.params9]; exact all_three ok51 ok5 ok5) rfl hW' hb⟩

theorem waveSuspects_holds : Rows.WaveSuspectsSaid :=
  OpenClaim.holds_of_wide 9 Try.f9 rfl rfl rfl rfl rfl rfl rfl ⟨rfl, rfl, rfl, rfl, rfl⟩ rfl rfl rfl rfl rfl (by kernel_rfl) Try.func9 (by kernel_rfl)
    (of_decide_eq_true (by kernel_rfl)) (by unfold Func.isWrapper; first | (rw [if_pos (by decide +kernel)]; kernel_rfl) | (rw [if_neg (by decide +kernel)]; exact ⟨rfl, rfl⟩))
    (fun os started H enc _ => waveSuspects_lifted os started H enc)

end Go.Proofs.Ytlidakhdcnkabaa
