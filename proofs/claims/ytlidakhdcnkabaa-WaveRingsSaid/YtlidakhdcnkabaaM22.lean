/- The law WaveRings. No condition. -/
import Derived.Test.YtlidakhdcnkabaaM20
import Derived.Test.YtlidakhdcnkabaaM21
namespace Go.Proofs.Ytlidakhdcnkabaa
open Go.AI
set_option linter.unusedSimpArgs false

theorem chk_small : ∀ (l : List (Int × Int)) (p : Int), chk p l < 6
  | [], _ => by simp [chk]
  | x :: l, p => by
    unfold chk
    split
    · split
      · omega
      · exact chk_small l _
    · omega

theorem checkT_small (t : Tide) : checkT t < 6 := by
  unfold checkT
  split
  · split
    · omega
    · exact chk_small _ _
  · omega

/-- What Clash answers, as the reference's Fits has it. -/
theorem clash_cases (t : Tide) : ∃ c, clashT t = some c ∧ ((rFitsT t = 0 ∧ c = ([], 6)) ∨ (rFitsT t = 13 ∧ c.2 = 0 ∧ rVerifyT t c.1 = 0) ∨ (rFitsT t ≠ 0 ∧ rFitsT t ≠ 13 ∧ c = ([], rFitsT t))) := by
  by_cases hc : checkT t = 0
  · by_cases hi : badIx (solve t) t 0 t.rs < 0
    · refine ⟨([], 6), ?_, .inl ⟨?_, rfl⟩⟩
      · unfold clashT
        rw [if_neg (by rw [hc]; simp)]
        simp only
        rw [if_pos hi]
      · unfold rFitsT
        rw [if_neg (by rw [hc]; simp), if_pos ((same_fits (check_ok hc) (check_v hc)).2 hi)]
    · obtain ⟨ring, h1, h2⟩ := clash_ring hc hi
      refine ⟨(ring, 0), h1, .inr (.inl ⟨?_, rfl, h2⟩)⟩
      unfold rFitsT
      rw [if_neg (by rw [hc]; simp), if_neg (fun q => hi ((same_fits (check_ok hc) (check_v hc)).1 q))]
  · have hf : rFitsT t = checkT t := by unfold rFitsT; rw [if_pos hc]
    have := checkT_small t
    refine ⟨([], checkT t), ?_, .inr (.inr ⟨by rw [hf]; exact hc, by rw [hf]; omega, by rw [hf]⟩)⟩
    unfold clashT
    rw [if_pos hc]


def law4S : FSpec := fun xs nx G => match xs with
  | [r, .il es _] => ofOpt (asTide r) fun _ => ofOpt (asInts es) fun _ => valR nx G (.bool true)
  | _ => .fail

theorem law4_sound : FSound Try.prog 4 law4S := by
  refine fsound_pure Try.func4 (by kernel_rfl) rfl _ fun xs nx G d hp h => ?_
  unfold law4S at h
  split at h
  · rename_i r es ex1
    replace h := rd_opt h; obtain ⟨t, ht, h⟩ := h
    replace h := rd_opt h; obtain ⟨ring, hl, h⟩ := h
    obtain ⟨ex, rfl⟩ := asTide_some ht
    have := asInts_some hl; subst this
    have hd := rd_val h
    subst hd
    refine ⟨by simp [Try.f4], all2 (free_tide t ex) (free_ints _ _), ?_⟩
    have one : ∀ {s : St}, tget s.tmps 4 = .bool true → Ends0 Try.prog Try.f4 s nx G ⟨.bool true, [], nx, G⟩ := fun {s} hv => ends_free (l := [.tmp 4]) rfl (rs := [.bool true]) (by simp [hv]) (fun k => by simp) (by simp)
    refine .step X19.sound (by kernel_rfl) (by simp; exact rfl) ?_ -- region 0
    refine .seq ?_
    by_cases h1 : t.rs.length ≤ 80 ∧ ring.length ≤ 80
    · have b1 : ¬ (80 : Int) < t.rs.length := by omega
      have b2 : ¬ (80 : Int) < ring.length := by omega
      have b3 := h1.1
      refine .step X19.sound (by kernel_rfl) (by simp [b1, b2]; exact rfl) ?_ -- region 1
      refine .cond (t := false) (by simp) (.skip ?_)
      refine .step X19.sound (by kernel_rfl) (by simp [given_at, b3]; exact rfl) ?_ -- region 3
      refine .step X19.sound (by kernel_rfl) (by simp [susp_same]; exact rfl) ?_ -- region 4
      refine .step X19.sound (by kernel_rfl) (by simp; exact rfl) ?_ -- region 5
      refine .seq ?_
      refine .draw mixed X19.sound (by kernel_rfl) (by kernel_rfl) rfl (by simp [verify_same]; exact ⟨rfl, rfl⟩) (looseB_spec (by kernel_rfl)) ?_ -- region 6
      refine .cond (t := false) (by simp) (.skip ?_)
      obtain ⟨c, hcl, hcase⟩ := clash_cases t
      refine .step X19.sound (by kernel_rfl) (by simp [Clash_at t ex c hcl]; exact rfl) ?_ -- region 8
      refine .step X19.sound (by kernel_rfl) (by simp; exact rfl) ?_ -- region 9
      refine .seq ?_
      refine .step X19.sound (by kernel_rfl) (by simp; exact rfl) ?_ -- region 10
      refine .block ?_ -- 0
      rcases hcase with ⟨e1, e2⟩ | ⟨e1, e2, e3⟩ | ⟨e1, e2, e3⟩
      · subst e2
        rw [e1]
        refine .step X19.sound (by kernel_rfl) (by simp; exact rfl) ?_ -- region 11
        refine .cond (t := true) (by simp) ?_
        refine .step X19.sound (by kernel_rfl) (by simp; exact rfl) ?_ -- region 12
        exact .ret ⟨.inr rfl, one (by simp)⟩
      · obtain ⟨c1, c2⟩ := c
        simp only at e2 e3
        subst e2
        rw [e1]
        refine .step X19.sound (by kernel_rfl) (by simp; exact rfl) ?_ -- region 11
        refine .cond (t := false) (by simp) ?_
        refine .step X19.sound (by kernel_rfl) (by simp; exact rfl) ?_ -- region 13
        refine .cond (t := true) (by simp) ?_
        refine .step X19.sound (by kernel_rfl) (by simp [e3]; exact rfl) ?_ -- region 14
        exact .ret ⟨.inr rfl, one (by simp)⟩
      · subst e3
        have n1 : (rFitsT t == 0) = false := by simpa using e1
        have n2 : (rFitsT t == 13) = false := by simpa using e2
        refine .step X19.sound (by kernel_rfl) (by simp [n1]; exact rfl) ?_ -- region 11
        refine .cond (t := false) (by simp) ?_
        refine .step X19.sound (by kernel_rfl) (by simp [n2]; exact rfl) ?_ -- region 13
        refine .cond (t := false) (by simp) (.skip ?_)
        refine .step X19.sound (by kernel_rfl) (by simp; exact rfl) ?_ -- region 15
        exact .ret ⟨.inr rfl, one (by simp)⟩
    · by_cases b1 : (80 : Int) < t.rs.length
      · refine .step X19.sound (by kernel_rfl) (by simp [b1]; exact rfl) ?_ -- region 1
        refine .cond (t := true) (by simp) ?_
        refine .step X19.sound (by kernel_rfl) (by simp; exact rfl) ?_ -- region 2
        exact .ret ⟨.inr rfl, one (by simp)⟩
      · have b2 : (80 : Int) < ring.length := by omega
        refine .step X19.sound (by kernel_rfl) (by simp [b1, b2]; exact rfl) ?_ -- region 1
        refine .cond (t := true) (by simp) ?_
        refine .step X19.sound (by kernel_rfl) (by simp; exact rfl) ?_ -- region 2
        exact .ret ⟨.inr rfl, one (by simp)⟩
  · exact (rd_fail h).elim

end Go.Proofs.Ytlidakhdcnkabaa
