/- Suspects: who is one; true waves. Plain law. The law WaveSuspects. No condition. -/
import Derived.Test.YtlidakhdcnkabaaM25
import Derived.Test.YtlidakhdcnkabaaM23
namespace Go.Proofs.Ytlidakhdcnkabaa
open Go.AI

theorem chk_low : ∀ (l : List (Int × Int)) (p q : Int), p ≤ q → chk q l = 0 → chk p l = 0
  | [], _, _, _, _ => rfl
  | x :: l, p, q, hpq, h => by
    rw [chk] at h ⊢
    split at h
    case isFalse => omega
    rename_i hr
    split at h
    · omega
    · rw [if_pos hr, if_neg (by omega)]; exact h

theorem chk_drop : ∀ (l : List (Int × Int)) (p : Int) (i : Nat), chk p l = 0 → chk p (l.take i ++ l.drop (i + 1)) = 0
  | [], _, _, _ => by simp [chk]
  | x :: l, p, 0, h => by
    simp only [List.take_zero, List.nil_append, Nat.zero_add, List.drop_succ_cons, List.drop_zero]
    rw [chk] at h
    split at h
    case isFalse => omega
    split at h
    · omega
    · exact chk_low l p x.1 (by omega) h
  | x :: l, p, i + 1, h => by
    simp only [List.take_succ_cons, List.cons_append, List.drop_succ_cons]
    rw [chk] at h ⊢
    split at h
    case isFalse => omega
    rename_i hr
    split at h
    · omega
    · rename_i hp
      rw [if_pos hr, if_neg hp]
      exact chk_drop l x.1 i h

theorem drop_check {t : Tide} (h : checkT t = 0) (i : Nat) : checkT (dropAt t i) = 0 := by
  obtain ⟨k1, k2, k3, k4⟩ := checkT_zero h
  have hl : (dropAt t i).rs.length ≤ t.rs.length := by simp [dropAt]; omega
  unfold checkT
  rw [if_pos (show (1 ≤ (dropAt t i).sun ∧ (dropAt t i).sun ≤ 30) ∧ 1 ≤ (dropAt t i).moon ∧ (dropAt t i).moon ≤ 30 from ⟨k1, k2⟩), if_neg (show ¬ 60 < (dropAt t i).rs.length by omega)]
  exact chk_drop t.rs _ i k4

theorem good_rings {t : Tide} (h : checkT t = 0) (i : Nat) : ringsT (dropAt t i) (dropAt t i).rs.length [] 0 = goodAt t i := by
  have hc := drop_check h i
  rw [rings_iff hc]
  unfold goodAt rFitsT
  rw [if_neg (by rw [hc]; simp)]
  have hs := same_fits (check_ok hc) (check_v hc)
  by_cases hf : rFits (dropAt t i) = true
  · rw [if_pos hf, decide_eq_true (hs.1 hf)]; simp
  · rw [if_neg hf, decide_eq_false (fun q => hf (hs.2 q))]; simp

/-- What is left of the suspects from j on. -/
theorem susp_split (t : Tide) (j : Nat) : ∀ n, j ≤ n → ∃ rest, suspL t n = suspL t j ++ rest ∧ (∀ y ∈ rest, (j : Int) ≤ y) ∧ (goodAt t j = false → ∀ y ∈ rest, (j : Int) < y)
  | 0, h => by
    have : j = 0 := by omega
    subst this
    exact ⟨[], by simp, by simp, by simp⟩
  | n + 1, h => by
    by_cases hj : j = n + 1
    · subst hj; exact ⟨[], by simp, by simp, by simp⟩
    · obtain ⟨rest, h1, h2, h3⟩ := susp_split t j n (by omega)
      rw [suspL_succ]
      by_cases hg : goodAt t n = true
      · rw [if_pos hg, h1]
        refine ⟨rest ++ [(n : Int)], by simp, fun y hy => ?_, fun hgj y hy => ?_⟩
        · rcases List.mem_append.1 hy with hy | hy
          · exact h2 y hy
          · simp only [List.mem_singleton] at hy; omega
        · rcases List.mem_append.1 hy with hy | hy
          · exact h3 hgj y hy
          · simp only [List.mem_singleton] at hy
            have : j ≠ n := by intro q; rw [q, hg] at hgj; cases hgj
            omega
      · rw [if_neg hg]
        exact ⟨rest, h1, h2, h3⟩

theorem susp_good {t : Tide} {j n : Nat} (hj : j < n) (hg : goodAt t j = true) : (suspL t n)[(suspL t j).length]? = some (j : Int) := by
  obtain ⟨rest, h1, _⟩ := susp_split t (j + 1) n hj
  rw [suspL_succ, if_pos hg] at h1
  rw [h1, List.append_assoc, List.getElem?_append_right (Nat.le_refl _)]
  simp

theorem susp_bad {t : Tide} {j n : Nat} (hj : j < n) (hg : goodAt t j = false) {y : Int} (h : (suspL t n)[(suspL t j).length]? = some y) : y ≠ (j : Int) := by
  obtain ⟨rest, h1, _, h3⟩ := susp_split t j n (by omega)
  rw [h1, List.getElem?_append_right (Nat.le_refl _)] at h
  have := h3 hg y (List.mem_of_getElem? h)
  omega

theorem fits_solve {t : Tide} (hok : rOk t) {f : Node → Int} (hf : FitsF t f) : FitsF t (fun u => (solE t u).w) := by
  intro x hx
  obtain ⟨m1, m2⟩ := ends_mem hok hx
  have hA := solve_asg hok
  have h1 := (hA.known _ m1).f f hf
  have h2 := (hA.known _ m2).f f hf
  have he := hA.even x hx
  have h3 := hf x hx
  rw [eps_s] at h1
  rw [eps_m, ← he] at h2
  generalize eps (solE t (sN t x)).root * f (solE t (sN t x)).root = c at *
  simp only
  generalize (solE t (sN t x)).w = a at *
  generalize (solE t (mN t x)).w = b at *
  generalize f (sN t x) = p at *
  generalize f (mN t x) = q at *
  unfold eqv at *
  omega

/-- The true waves of a sky. -/
def trueF (s : Sky) (u : Node) : Int := if u.1 = 0 then (sunsM s).getD u.2.toNat 0 else (moonsM s).getD u.2.toNat 0

theorem hrs_nonneg : ∀ (l : List Int) (i : Nat) (h : Int), (∀ n ∈ l, u8 n) → 0 ≤ h → ∀ y ∈ hrs i h l, 0 ≤ y
  | [], _, _, _, _ => by simp [hrs]
  | g :: l, i, h, hu, h0 => by
    have hg := hu g List.mem_cons_self
    unfold u8 at hg
    rw [hrs]
    split
    · simp
    · intro y hy
      have hb : 0 ≤ (if 0 < i ∧ g % 5 = 0 then h + g % 5 + 1 else h + g % 5) := by split <;> omega
      rcases List.mem_cons.1 hy with rfl | hy
      · exact hb
      · exact hrs_nonneg l _ _ (fun n hn => hu n (List.mem_cons_of_mem _ hn)) hb y hy

theorem true_at {s : Sky} (t : Tide) (ht : t.sun = mSun s ∧ t.moon = mMoon s) {x : Int × Int} (h0 : 0 ≤ x.1) : trueF s (sN t x) + trueF s (mN t x) = trueM s x.1 := by
  have e1 : x.1.tmod t.sun = x.1 % mSun s := by rw [Int.tmod_eq_emod_of_nonneg h0, ht.1]
  have e2 : x.1.tmod t.moon = x.1 % mMoon s := by rw [Int.tmod_eq_emod_of_nonneg h0, ht.2]
  show trueF s (0, x.1.tmod t.sun) + trueF s (1, x.1.tmod t.moon) = _
  rw [e1, e2]
  rfl

theorem made_true {s : Sky} (ok : s.Ok) {x : Int × Int} (hx : x ∈ madeR s) : 0 ≤ x.1 ∧ x.2 = trueM s x.1 := by
  obtain ⟨h, hh, rfl⟩ := List.mem_map.1 hx
  exact ⟨hrs_nonneg _ _ _ ok.hours (by omega) h hh, rfl⟩

/-- A made record, one of whose values is changed. -/
def changedT (s : Sky) (w : Nat) (v : Int) : Tide := ⟨mSun s, mMoon s, (madeR s).set w (((madeR s).getD w (0, 0)).1, v)⟩

theorem changed_good {s : Sky} (ok : s.Ok) {w : Nat} {v : Int} (hc : checkT (changedT s w v) = 0) : goodAt (changedT s w v) w = true := by
  have hd := drop_check hc w
  unfold goodAt
  refine decide_eq_true ((bad_fits (check_v hd)).2 (fits_solve (check_ok hd) (f := trueF s) fun x hx => ?_))
  have hxm : x ∈ madeR s := by
    simp only [dropAt, changedT] at hx
    rcases List.mem_append.1 hx with hx | hx
    · rw [List.take_set_of_le (Nat.le_refl _)] at hx
      exact List.mem_of_mem_take hx
    · rw [List.drop_set_of_lt (by omega)] at hx
      exact List.mem_of_mem_drop hx
  obtain ⟨h1, h2⟩ := made_true ok hxm
  have := true_at (s := s) (dropAt (changedT s w v) w) ⟨rfl, rfl⟩ h1
  rw [this, h2]
  unfold eqv
  rw [Int.sub_self]
  exact Int.dvd_zero _

theorem chk_set : ∀ (l : List (Int × Int)) (p : Int) (w : Nat) (v : Int), chk p l = 0 → -1000000 ≤ v ∧ v ≤ 1000000 → chk p (l.set w ((l.getD w (0, 0)).1, v)) = 0
  | [], _, _, _, h, _ => h
  | x :: l, p, 0, v, h, hv => by
    rw [chk] at h
    split at h
    case isFalse => omega
    rename_i hr
    split at h
    · omega
    · rename_i hp
      simp only [List.set_cons_zero, List.getD_cons_zero]
      rw [chk, if_pos ⟨hr.1, hv⟩, if_neg hp]
      exact h
  | x :: l, p, w + 1, v, h, hv => by
    rw [chk] at h
    split at h
    case isFalse => omega
    rename_i hr
    split at h
    · omega
    · rename_i hp
      simp only [List.set_cons_succ, List.getD_cons_succ]
      rw [chk, if_pos hr, if_neg hp]
      exact chk_set l x.1 w v h hv

theorem changed_check {s : Sky} (ok : s.Ok) (w : Nat) {v : Int} (hv : -1000000 ≤ v ∧ v ≤ 1000000) : checkT (changedT s w v) = 0 := by
  obtain ⟨k1, k2, k3, k4⟩ := checkT_zero (made_check ok)
  unfold checkT
  rw [if_pos (show (1 ≤ (changedT s w v).sun ∧ (changedT s w v).sun ≤ 30) ∧ 1 ≤ (changedT s w v).moon ∧ (changedT s w v).moon ≤ 30 from ⟨k1, k2⟩), if_neg (show ¬ 60 < (changedT s w v).rs.length by simp [changedT]; exact k3)]
  exact chk_set _ _ _ _ k4 hv

end Go.Proofs.Ytlidakhdcnkabaa

namespace Go.Proofs.Ytlidakhdcnkabaa
open Go.AI
set_option linter.unusedSimpArgs false

noncomputable def X23 : Ext := .of [(12, worksS), (23, SuspectsS), (28, wrongSkyS), (29, ringsS 100), (32, madeS)] []
theorem X23.sound : X23.Sound Try.prog := Ext.of_sound ⟨works_sound, Suspects_sound, wrongSky_sound, rings_sound 100, made_sound, trivial⟩
@[simp] theorem X23.raw_ (f : FuncId) : X23.raw f = false := rfl
@[simp] theorem X23.s12 : X23.spec 12 = worksS := rfl
@[simp] theorem X23.s23 : X23.spec 23 = SuspectsS := rfl
@[simp] theorem X23.s28 : X23.spec 28 = wrongSkyS := rfl
@[simp] theorem X23.s29 : X23.spec 29 = ringsS 100 := rfl
@[simp] theorem X23.s32 : X23.spec 32 = madeS := rfl

noncomputable def law9S : FSpec := fun xs nx G => match xs with
  | [r, .int .u8 a, .int .u8 b] => ofOpt (asSky r) fun _ => if (0 ≤ a ∧ a ≤ 255) ∧ 0 ≤ b ∧ b ≤ 255 then valR nx G (.bool true) else .fail
  | _ => .fail

theorem law9_at {s : Sky} (h : s.Ok) (eh ew : Bool) {a b : Int} (ha : u8 a) (hb : u8 b) (nx G : Nat) : law9S [.agg (skyC s eh ew), .int .u8 a, .int .u8 b] nx G = valR nx G (.bool true) := by
  simp only [law9S, asSky_at h, ofOpt]
  rw [if_pos ⟨ha, hb⟩]

theorem flat_pairs (l : List (Int × Int)) : flatEs (pairs l) = true := by simp

set_option maxHeartbeats 2000000 in
theorem law9_sound : FSound Try.prog 9 law9S := by
  refine fsound_pure Try.func9 (by kernel_rfl) rfl _ fun xs nx G d hp h => ?_
  unfold law9S at h
  split at h
  case h_2 => exact (rd_fail h).elim
  rename_i r pa pb
  replace h := rd_opt h; obtain ⟨s, hs, h⟩ := h
  obtain ⟨ok, eh, ew, rfl⟩ := asSky_some hs
  split at h
  case isFalse => exact (rd_fail h).elim
  rename_i hab
  have hd := rd_val h
  subst hd
  refine ⟨by simp [Try.f9], all3 (.agg _ (skyC_free eh ew)) (.int _ _) (.int _ _), ?_⟩
  have one : ∀ {st : St}, tget st.tmps 6 = .bool true → Ends0 Try.prog Try.f9 st nx G ⟨.bool true, [], nx, G⟩ := fun {st} hv => ends_free (l := [.tmp 6]) rfl (rs := [.bool true]) (by simp [hv]) (fun k => by simp) (by simp)
  have hlen := skyC_len eh ew ok
  have hsc := skyC_sc (s := s) eh ew
  have htk : List.take 14 (skyC s eh ew) = skyC s eh ew := List.take_of_length_le (by omega)
  have hchk := wrong_check ok
  have hws := fun nx G => wrongSky_at ok eh ew nx G
  generalize wrongT s = t at *
  obtain ⟨k1, k2, k3, k4⟩ := checkT_zero hchk
  have hsu : suspT t = (suspL t t.rs.length, 0) := by simp [suspT, hchk]
  refine .step X23.sound (by kernel_rfl) (by simp [hlen, hsc]; exact rfl) ?_ -- region 0
  refine .step X23.sound (by kernel_rfl) (by simp [hlen, htk, fz_sky, hws]; exact rfl) ?_ -- region 1
  refine .step X23.sound (by kernel_rfl) (by simp [hsu]; exact rfl) ?_ -- region 2
  refine .seq (.step X23.sound (by kernel_rfl) (by simp; exact rfl) ?_) -- region 3
  refine .cond (t := false) (by simp) (.skip ?_)
  refine .step X23.sound (by kernel_rfl) (by simp; exact rfl) ?_ -- region 5
  refine .seq (.step X23.sound (by kernel_rfl) (by simp; exact rfl) (.block ?_)) -- region 6
  refine .loopV (fun m st => ∃ (j G : Nat), m = t.rs.length - j ∧ j ≤ t.rs.length ∧ st = ⟨[(1, .int .u8 pa), (2, .int .u8 pb), (3, .ptr 0 0 0 0), (7, .ptr 1 1 0 0), (8, .il (ints (suspL t t.rs.length)) false), (10, .int .i64 (suspL t j).length), (33, .int .i64 t.rs.length), (34, .int .i64 j)], [(0, some (.row 14 [skyC s eh ew] 0 true)), (1, some (.row 3 [tideC t false] 1 true))], 2, G⟩) ?_ (View.norm _ [1, 2, 3, 7, 8, 10, 33, 34] [0, 1] 2 2 (by simp)) ⟨0, 2, rfl, Nat.zero_le _, by simp [suspL]⟩
  rintro m st ⟨j, G1, hm, hj, rfl⟩
  refine .step X23.sound (by kernel_rfl) (by simp; exact rfl) ?_ -- region 7
  refine .seq ?_
  refine .cond_split (by simp; exact rfl) (fun hc => ?_) (fun hc => ?_) -- t35
  · have hjl : j < t.rs.length := by simpa using hc
    have hw1 : IntKind.i64.wrap ((j : Int) + 1) = (j : Int) + 1 := wrap64 (by omega) (by omega)
    have g1 : (j : Int) ≤ t.rs.length := by omega
    have g2 : (j : Int) + 1 ≤ t.rs.length := by omega
    have g3 : (0 : Int) ≤ (j : Int) + 1 := by omega
    have g4 : ((j : Int) + 1).toNat = j + 1 := by omega
    have g5 : ((t.rs.length : Int) - ((j : Int) + 1)).toNat = t.rs.length - (j + 1) := by omega
    have okp : okEs 2 (pairs t.rs) = true := by simp [okEs, AVal.sc]
    have ok1 : okEs 2 (List.take j (pairs t.rs)) = true := by have := okEs_pairs (t.rs.take j); rw [pairs, List.map_take] at this; exact this
    have ok2 : okEs 2 (List.drop (j + 1) (pairs t.rs)) = true := by have := okEs_pairs (t.rs.drop (j + 1)); rw [pairs, List.map_drop] at this; exact this
    have hB : List.take (t.rs.length - (j + 1)) (List.drop (j + 1) (pairs t.rs)) = List.drop (j + 1) (pairs t.rs) := List.take_of_length_le (by simp)
    have m1 : min j t.rs.length = j := Nat.min_eq_left hj
    have r1 : j * 16 ≤ room := by simp [room]; omega
    have r2 : (j + (t.rs.length - (j + 1))) * 16 ≤ room := by simp [room]; omega
    have hfin : ∀ L : List (List AVal), L = List.take j (pairs t.rs) ++ List.drop (j + 1) (pairs t.rs) → List.take (j + (t.rs.length - (j + 1))) L = L := fun L hL => List.take_of_length_le (by rw [hL]; simp; omega)
    have hfin2 := hfin _ rfl
    have hcall : ∀ nx G, ringsS 100 [.agg [.int .i64 t.sun, .int .i64 t.moon, .il (List.take j (pairs t.rs) ++ List.drop (j + 1) (pairs t.rs)) false], .il [] true, .int .i64 0] nx G = valR nx G (.bool (goodAt t j)) := by
      intro nx G
      have hdl : (dropAt t j).rs.length ≤ t.rs.length := by simp [dropAt]; omega
      have hro : ringsOk (dropAt t j) [] := ⟨⟨⟨show t.sun ≠ 0 by omega, show t.moon ≠ 0 by omega⟩, by omega⟩, by simp, by simp⟩
      have := rings_at 100 (dropAt t j) false true [] 0 ⟨hro, by simp; omega⟩ nx G
      rw [List.length_nil, Nat.sub_zero, good_rings hchk] at this
      have e : ((dropAt t j).rs.map fun x => [AVal.int .i64 x.1, .int .i64 x.2]) = List.take j (pairs t.rs) ++ List.drop (j + 1) (pairs t.rs) := by simp [dropAt, List.map_append]
      have this' : ringsS 100 [.agg [.int .i64 t.sun, .int .i64 t.moon, .il ((dropAt t j).rs.map fun x => [AVal.int .i64 x.1, .int .i64 x.2]) false], .il [] true, .int .i64 0] nx G = valR nx G (.bool (goodAt t j)) := this
      rw [e] at this'
      exact this'
    have fl1 : flatEs (List.take j (pairs t.rs)) = true := by have := flat_pairs (t.rs.take j); rw [pairs, List.map_take] at this; exact this
    have fl2 : flatEs (List.drop (j + 1) (pairs t.rs)) = true := by have := flat_pairs (t.rs.drop (j + 1)); rw [pairs, List.map_drop] at this; exact this
    refine .skip (.seq (.block ?_))
    refine .step X23.sound (by kernel_rfl) (by simp; exact rfl) ?_ -- region 8
    refine .step X23.sound (by kernel_rfl) (by simp; exact rfl) ?_ -- region 9
    refine .draw mixed X23.sound (by kernel_rfl) (by kernel_rfl) rfl (by simp [elems, appR, hw1, g1, g2, g3, g4, g5, okp, ok1, ok2, hB, m1, r1, r2]; exact ⟨rfl, rfl⟩) (looseB_spec (by kernel_rfl)) ?_ -- region 10
    refine .step X23.sound (by kernel_rfl) (by simp [List.take_take, fl1, fl2, hfin2, hcall]; exact rfl) ?_ -- region 11
    have sj : ∀ g : Bool, goodAt t j = g → (if g = true then suspL t j ++ [(j : Int)] else suspL t j) = suspL t (j + 1) := fun g hg => by rw [suspL_succ, hg]
    have okl : okEs 1 (ints (suspL t t.rs.length)) = true := by simp [okEs, AVal.sc]
    have hlj : (suspL t j).length ≤ j := suspL_len t j
    have hw2 : IntKind.i64.wrap (((suspL t j).length : Int) + 1) = ((suspL t j).length : Int) + 1 := wrap64 (by omega) (by omega)
    cases hgj : goodAt t j with
    | true =>
      have hge := susp_good hjl hgj
      have hlt : (suspL t j).length < (suspL t t.rs.length).length := (List.getElem?_eq_some_iff.1 hge).1
      have hge' : (suspL t t.rs.length)[(suspL t j).length]'hlt = (j : Int) := by rw [List.getElem?_eq_getElem hlt] at hge; simpa using hge
      have hs1 := sj true hgj
      simp only [if_true] at hs1
      refine .seq (.step X23.sound (by kernel_rfl) (by simp [hlt, hge', okl]; exact rfl) ?_) -- region 12
      refine .cond (t := false) (by simp) (.skip ?_)
      refine .step X23.sound (by kernel_rfl) (by simp; exact rfl) ?_ -- region 14
      refine .cond (t := true) (by simp) ?_
      refine .region X23.sound (by kernel_rfl) (by simp [hw2]; exact rfl) ?_ -- region 15
      refine .region X23.sound (by kernel_rfl) (by simp [hw1]; exact rfl) ?_ -- region 16
      refine ⟨_, _, View.norm _ [1, 2, 3, 7, 8, 10, 33, 34] [0, 1] 2 (G1 + 10) (by simp), ?_, j + 1, G1 + 10, rfl, hjl, by rw [← hs1]; simp⟩
      omega
    | false =>
      have hs1 := sj false hgj
      simp only [Bool.false_eq_true, if_false] at hs1
      by_cases hlt : (suspL t j).length < (suspL t t.rs.length).length
      · obtain ⟨y, hy⟩ : ∃ y, (suspL t t.rs.length)[(suspL t j).length]? = some y := ⟨_, List.getElem?_eq_getElem hlt⟩
        have hy' : (suspL t t.rs.length)[(suspL t j).length]'hlt = y := by rw [List.getElem?_eq_getElem hlt] at hy; simpa using hy
        have hyb : (y == (j : Int)) = false := by simpa using susp_bad hjl hgj hy
        refine .seq (.step X23.sound (by kernel_rfl) (by simp [hlt, hy', okl, hyb]; exact rfl) ?_) -- region 12
        refine .cond (t := false) (by simp [hyb]) (.skip ?_)
        refine .step X23.sound (by kernel_rfl) (by simp; exact rfl) ?_ -- region 14
        refine .cond (t := false) (by simp) (.skip ?_)
        refine .region X23.sound (by kernel_rfl) (by simp [hw1]; exact rfl) ?_ -- region 16
        refine ⟨_, _, View.norm _ [1, 2, 3, 7, 8, 10, 33, 34] [0, 1] 2 (G1 + 10) (by simp), ?_, j + 1, G1 + 10, rfl, hjl, by rw [← hs1]; simp⟩
        omega
      · refine .seq (.step X23.sound (by kernel_rfl) (by simp [hlt]; exact rfl) ?_) -- region 12
        refine .cond (t := false) (by simp) (.skip ?_)
        refine .step X23.sound (by kernel_rfl) (by simp; exact rfl) ?_ -- region 14
        refine .cond (t := false) (by simp) (.skip ?_)
        refine .region X23.sound (by kernel_rfl) (by simp [hw1]; exact rfl) ?_ -- region 16
        refine ⟨_, _, View.norm _ [1, 2, 3, 7, 8, 10, 33, 34] [0, 1] 2 (G1 + 10) (by simp), ?_, j + 1, G1 + 10, rfl, hjl, by rw [← hs1]; simp⟩
        omega
  · have hjl : j = t.rs.length := by
      have : ¬ j < t.rs.length := by simpa using hc
      omega
    subst hjl
    have hml := madeR_len s
    refine .exit ?_ -- 0
    refine .seq (.step X23.sound (by kernel_rfl) (by simp; exact rfl) ?_) -- region 17
    refine .cond (t := false) (by simp) (.skip ?_)
    refine .norm (s1 := ⟨[(1, .int .u8 pa), (2, .int .u8 pb), (3, .ptr 0 0 0 0)], [(0, some (.row 14 [skyC s eh ew] 0 true))], 1, G1⟩) [1, 2, 3] [0] 1 G1 (by simp) (by simp) ?_
    refine .step X23.sound (by kernel_rfl) (by simp [hlen, htk, fz_sky, made_at ok]; exact rfl) ?_ -- region 19
    refine .norm (s1 := ⟨[(1, .int .u8 pa), (2, .int .u8 pb), (14, .ptr 2 (G1 + 1) 0 0)], [(1, some (.row 2 (pairs (madeR s)) G1 true)), (2, some (.row 3 [[.int .i64 (mSun s), .int .i64 (mMoon s), .sl 1 G1 0 (madeR s).length]] (G1 + 1) true))], 3, G1 + 2⟩) [1, 2, 14] [1, 2] 3 (G1 + 2) (by simp) (by simp) ?_
    by_cases hn : (madeR s).length = 0
    · refine .seq (.step X23.sound (by kernel_rfl) (by simp [hn]; exact rfl) ?_) -- region 20
      refine .cond (t := true) (by simp) ?_
      refine .step X23.sound (by kernel_rfl) (by simp; exact rfl) ?_ -- region 21
      exact .ret ⟨.inr rfl, one (by simp)⟩
    · have hn1 : madeR s ≠ [] := by intro q; rw [q] at hn; simp at hn
      have hn2 : ((madeR s).length : Int) ≠ 0 := by omega
      obtain ⟨w, hw⟩ : ∃ w, w = pa.toNat % (madeR s).length := ⟨_, rfl⟩
      have hwl : w < (madeR s).length := by rw [hw]; exact Nat.mod_lt _ (by omega)
      have c1 : IntKind.i64.wrap pa = pa := wrap64 (by omega) (by omega)
      have c2 : pa.tmod (madeR s).length = (w : Int) := by
        rw [Int.tmod_eq_emod_of_nonneg hab.1.1, hw]
        have : pa = (pa.toNat : Int) := by omega
        rw [this]; rfl
      obtain ⟨y, hy⟩ : ∃ y, (madeR s)[w]? = some y := ⟨_, List.getElem?_eq_getElem hwl⟩
      have hye : (madeR s)[w] = y := by rw [List.getElem?_eq_getElem hwl] at hy; simpa using hy
      have hyd : (madeR s).getD w (0, 0) = y := by rw [List.getD_eq_getElem?_getD, hy]; rfl
      have hyb : -255 ≤ y.2 ∧ y.2 ≤ 255 := by
        have := (made_true ok (List.mem_of_getElem? hy)).2
        rw [this]
        exact trueM_bnd ok _
      have c3 : IntKind.i64.wrap pb = pb := wrap64 (by omega) (by omega)
      have c4 : IntKind.i64.wrap (y.2 + pb) = y.2 + pb := wrap64 (by omega) (by omega)
      have hcc := changed_check ok w (v := y.2 + pb) (by omega)
      have hgood := changed_good ok hcc
      have hrs : (changedT s w (y.2 + pb)).rs = (madeR s).set w (y.1, y.2 + pb) := by
        show (madeR s).set w (((madeR s).getD w (0, 0)).1, y.2 + pb) = _
        rw [hyd]
      have hrl : (changedT s w (y.2 + pb)).rs.length = (madeR s).length := by rw [hrs]; simp
      have hsus : suspT (changedT s w (y.2 + pb)) = (suspL (changedT s w (y.2 + pb)) (madeR s).length, 0) := by simp [suspT, hcc, hrl]
      have hmem : (w : Int) ∈ suspL (changedT s w (y.2 + pb)) (madeR s).length := List.mem_map.2 ⟨w, List.mem_filter.2 ⟨List.mem_range.2 hwl, hgood⟩, rfl⟩
      have hll := suspL_len (changedT s w (y.2 + pb)) (madeR s).length
      have hP : (pairs (madeR s)).set w [.int .i64 y.1, .int .i64 (y.2 + pb)] = pairs (changedT s w (y.2 + pb)).rs := by rw [hrs, pairs, pairs, List.map_set]
      have hcall : ∀ nx G, SuspectsS [.agg [.int .i64 (mSun s), .int .i64 (mMoon s), .il ((pairs (madeR s)).set w [.int .i64 y.1, .int .i64 (y.2 + pb)]) false]] nx G = valR nx G (.tup [.il (ints (suspL (changedT s w (y.2 + pb)) (madeR s).length)) false, .int .i64 0]) := by
        intro nx G
        rw [hP]
        show SuspectsS [tideA (changedT s w (y.2 + pb)) false] nx G = _
        rw [Suspects_at, hsus]
        simp
      have fl : flatEs ((pairs (madeR s)).set w [.int .i64 y.1, .int .i64 (y.2 + pb)]) = true := by rw [hP]; exact flat_pairs _
      have ht : List.take (madeR s).length ((pairs (madeR s)).set w [.int .i64 y.1, .int .i64 (y.2 + pb)]) = (pairs (madeR s)).set w [.int .i64 y.1, .int .i64 (y.2 + pb)] := List.take_of_length_le (by simp)
      generalize suspL (changedT s w (y.2 + pb)) (madeR s).length = l at *
      refine .seq (.step X23.sound (by kernel_rfl) (by simp [hn1, hn2]; exact rfl) ?_) -- region 20
      refine .cond (t := false) (by simp [hn1]) (.skip ?_)
      refine .step X23.sound (by kernel_rfl) (by simp [hn1, hn2, c1, c2]; exact rfl) ?_ -- region 22
      refine .step X23.sound (by kernel_rfl) (by simp [hwl, hye, c3, c4]; exact rfl) ?_ -- region 23
      refine .step X23.sound (by kernel_rfl) (by simp [fl, ht, hcall]; exact rfl) ?_ -- region 24
      refine .step X23.sound (by kernel_rfl) (by simp; exact rfl) ?_ -- region 25
      refine .seq (.step X23.sound (by kernel_rfl) (by simp; exact rfl) (.block ?_)) -- region 26
      have okl : okEs 1 (ints l) = true := by simp [okEs, AVal.sc]
      refine .loopV (fun m st => ∃ (j G : Nat), m = l.length - j ∧ j ≤ l.length ∧ st = ⟨[(9, .int .i64 0), (17, .int .i64 w), (19, .bool (decide ((w : Int) ∈ l.take j))), (108, .il (ints l) false), (109, .int .i64 l.length), (110, .int .i64 j)], [], 3, G⟩) ?_ (View.norm _ [9, 17, 19, 108, 109, 110] [] 3 (G1 + 2) (by simp)) ⟨0, G1 + 2, rfl, Nat.zero_le _, by simp⟩
      rintro m st ⟨j, G2, hm2, hj2, rfl⟩
      refine .step X23.sound (by kernel_rfl) (by simp; exact rfl) ?_ -- region 27
      refine .seq ?_
      refine .cond_split (by simp; exact rfl) (fun hc => ?_) (fun hc => ?_) -- t111
      · have hjl : j < l.length := by simpa using hc
        obtain ⟨z, hz⟩ : ∃ z, l[j]? = some z := ⟨_, List.getElem?_eq_getElem hjl⟩
        have hze : l[j] = z := by rw [List.getElem?_eq_getElem hjl] at hz; simpa using hz
        have htk2 : l.take (j + 1) = l.take j ++ [z] := by rw [List.take_add_one, hz]; rfl
        have hw1 : IntKind.i64.wrap ((j : Int) + 1) = (j : Int) + 1 := wrap64 (by omega) (by omega)
        refine .skip (.seq (.block ?_))
        refine .step X23.sound (by kernel_rfl) (by simp [hjl, hze, okl]; exact rfl) ?_ -- region 28
        by_cases hmj : (w : Int) ∈ l.take j
        · have hm3 : (w : Int) ∈ l.take (j + 1) := by rw [htk2]; exact List.mem_append_left _ hmj
          refine .region X23.sound (by kernel_rfl) (by simp [hmj]; exact rfl) ?_ -- region 29
          refine .region X23.sound (by kernel_rfl) (by simp [hw1]; exact rfl) ?_ -- region 30
          refine ⟨_, _, View.norm _ [9, 17, 19, 108, 109, 110] [] 3 G2 (by simp), ?_, j + 1, G2, rfl, hjl, by simp [hm3]⟩
          omega
        · have hm3 : decide ((w : Int) ∈ l.take (j + 1)) = (z == (w : Int)) := by
            rw [htk2]
            by_cases hzw : z = (w : Int)
            · simp [hzw]
            · have hzw' : ¬ (w : Int) = z := fun q => hzw q.symm
              simp [hmj, hzw, hzw']
          refine .region X23.sound (by kernel_rfl) (by simp [hmj]; exact rfl) ?_ -- region 29
          refine .region X23.sound (by kernel_rfl) (by simp [hw1]; exact rfl) ?_ -- region 30
          refine ⟨_, _, View.norm _ [9, 17, 19, 108, 109, 110] [] 3 G2 (by simp), ?_, j + 1, G2, rfl, hjl, by rw [hm3]; simp⟩
          omega
      · have hjl : l.length ≤ j := by
          have : ¬ j < l.length := by simpa using hc
          omega
        rw [List.take_of_length_le hjl]
        refine .exit ?_ -- 2
        refine .step X23.sound (by kernel_rfl) (by simp [hmem]; exact rfl) ?_ -- region 31
        exact .ret ⟨.inr rfl, one (by simp)⟩

end Go.Proofs.Ytlidakhdcnkabaa
