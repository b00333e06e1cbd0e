/- The law WaveValues. No condition. -/
import Derived.Test.YtlidakhdcnkabaaM20
namespace Go.Proofs.Ytlidakhdcnkabaa
open Go.AI
set_option linter.unusedSimpArgs false

theorem all4 {p : AVal → Prop} {a b c d : AVal} (ha : p a) (hb : p b) (hc : p c) (hd : p d) : ∀ v ∈ [a, b, c, d], p v := fun v hv => by simp only [List.mem_cons, List.not_mem_nil, or_false] at hv; rcases hv with rfl | rfl | rfl | rfl; exact ha; exact hb; exact hc; exact hd
@[simp] theorem eqg69 : Try.prog.eqGuardType Try.prog.depth 69 = false := by kernel_rfl
theorem eq_reading (x : Int × Int) : eqT Try.prog eqD 69 (.agg [.int .i64 x.1, .int .i64 x.2]) (.agg [.int .i64 x.1, .int .i64 x.2]) = some true := by
  simp [eqD, eqT, eqFs]

def law10S : FSpec := fun xs nx G => match xs with
  | [r, .int .i64 _, .int .i64 _, .int .i64 _] => ofOpt (asTide r) fun _ => valR nx G (.bool true)
  | _ => .fail

theorem law10_sound : FSound Try.prog 10 law10S := by
  refine fsound_pure Try.func10 (by kernel_rfl) rfl _ fun xs nx G d hp h => ?_
  unfold law10S at h
  split at h
  · rename_i r hh fa tb
    replace h := rd_opt h; obtain ⟨t, ht, h⟩ := h
    obtain ⟨ex, rfl⟩ := asTide_some ht
    have hd := rd_val h
    subst hd
    refine ⟨by simp [Try.f10], all4 (free_tide t ex) (.int _ _) (.int _ _) (.int _ _), ?_⟩
    refine .step X19.sound (by kernel_rfl) (by simp; exact rfl) ?_ -- region 0
    refine .seq (.step X19.sound (by kernel_rfl) (by simp; exact rfl) ?_) -- region 1
    refine .cond_split (by simp; exact rfl) (fun hc => ?_) (fun hc => ?_) -- t22
    · refine .step X19.sound (by kernel_rfl) (by simp; exact rfl) ?_ -- region 2
      exact .ret ⟨.inr rfl, ends_free (l := [.tmp 8]) rfl (rs := [_]) (by simp) (fun k => by simp) (by simp)⟩
    · have hl : t.rs.length ≤ 80 := by simp at hc; omega
      refine .skip ?_
      refine .step X19.sound (by kernel_rfl) (by simp [given_at, hl]; exact rfl) ?_ -- region 3
      refine .step X19.sound (by kernel_rfl) (by simp [val_same]; exact rfl) ?_ -- region 4
      refine .step X19.sound (by kernel_rfl) (by simp; exact rfl) ?_ -- region 5
      refine .step X19.sound (by kernel_rfl) (by simp [follow_same]; exact rfl) ?_ -- region 6
      refine .step X19.sound (by kernel_rfl) (by simp; exact rfl) ?_ -- region 7
      refine .seq (.step X19.sound (by kernel_rfl) (by simp; exact rfl) ?_) -- region 8
      refine .cond (t := false) (by simp) (.skip ?_)
      generalize (rFollowT t fa tb).1 = l, (rFollowT t fa tb).2 = code
      generalize (!decide (code = 0)) = ex2
      refine .len 14 (es := pairs l) rfl fun hlen => ?_
      simp at hlen
      have hml : (maxLen : Int) ≤ 9223372036854775807 := by decide
      refine .seq (.step X19.sound (by kernel_rfl) (by simp; exact rfl) ?_) -- region 10
      refine .block ?_
      refine .loopV (fun k st => ∃ (j : Nat) (G1 : Nat), k = l.length - j ∧ j ≤ l.length ∧ st = ⟨[(8, .bool false), (14, .il (pairs l) ex2), (16, .il (pairs l) ex2), (18, .int .i64 j)], [], 2, G1⟩) ?_ (View.norm _ [8, 14, 16, 18] [] 2 2 (by simp)) ⟨0, 2, rfl, Nat.zero_le _, rfl⟩
      rintro k st ⟨j, G1, hk, hj, rfl⟩
      refine .seq (.step X19.sound (by kernel_rfl) (by simp; exact rfl) ?_) -- region 11
      refine .cond_split (by simp; exact rfl) (fun hc => ?_) (fun hc => ?_) -- t75
      · have hjl : j < l.length := by simpa using hc
        have hg : l[j]? = some l[j] := List.getElem?_eq_getElem hjl
        generalize l[j] = x at hg
        have hw : IntKind.i64.wrap ((j : Int) + 1) = ((j + 1 : Nat) : Int) := by rw [wrap64 (by omega) (by omega)]; rfl
        refine .skip (.seq (.block ?_))
        refine .draw mixed X19.sound (by kernel_rfl) (by kernel_rfl) rfl (by simp [hjl, hg, eq_reading]; exact ⟨rfl, rfl⟩) (looseB_spec (by kernel_rfl)) ?_ -- region 13
        refine .cond (t := false) (by simp) (.skip ?_)
        refine .region X19.sound (by kernel_rfl) (by simp [hw]; exact rfl) ?_ -- region 12
        refine ⟨_, _, View.norm _ [8, 14, 16, 18] [] 2 G1 (by simp), ?_, j + 1, _, rfl, hjl, rfl⟩
        omega
      · refine .exit ?_ -- 0
        refine .step X19.sound (by kernel_rfl) (by simp; exact rfl) ?_ -- region 15
        exact .ret ⟨.inr rfl, ends_free (l := [.tmp 8]) rfl (rs := [_]) (by simp) (fun k => by simp) (by simp)⟩
  · exact (rd_fail h).elim

end Go.Proofs.Ytlidakhdcnkabaa
