/- What the reference is given; records. Records; the examples work. The examples work. The law WaveFits. No condition. -/
import Derived.Test.YtlidakhdcnkabaaM17
import Derived.Test.YtlidakhdcnkabaaM08
import Derived.Test.YtlidakhdcnkabaaM19
namespace Go.Proofs.Ytlidakhdcnkabaa
open Go.AI
set_option linter.unusedSimpArgs false

@[simp] theorem take_map_all {α β : Type} (f : α → β) (l : List α) : List.take l.length (List.map f l) = List.map f l := List.take_of_length_le (by simp)

def givenS : FSpec := fun xs nx G => match xs with
  | [r] => ofOpt (asTide r) fun t => if t.rs.length ≤ 80 then valR nx G (tideA t false) else .fail
  | _ => .fail

theorem given_sound : FSound Try.prog 13 givenS := by
  refine fsound_pure Try.func13 (by kernel_rfl) rfl _ fun xs nx G d hp h => ?_
  unfold givenS at h
  split at h
  · rename_i r
    replace h := rd_opt h; obtain ⟨t, ht, h⟩ := h
    obtain ⟨ex, rfl⟩ := asTide_some ht
    split at h
    · rename_i hlen
      have hd := rd_val h
      subst hd
      refine ⟨by simp [Try.f13], all1 (free_tide t ex), ?_⟩
      refine .step X0.sound (by kernel_rfl) (by simp; exact rfl) ?_ -- region 0
      refine .step X0.sound (by kernel_rfl) (by simp; exact rfl) ?_ -- region 1
      refine .view (View.norm _ [1, 2, 3] [0, 1, 2] 3 3 (by simp)) ?_
      refine .view (View.virtCell _ 2 2 3 3 2 2 true true [.int .i64 t.sun, .int .i64 t.moon, .il [] true] (by simp) rfl (by simp)) ?_
      refine .seq (.step X0.sound (by kernel_rfl) (by simp; exact rfl) (.block ?_)) -- region 2
      refine .loopV (fun k st => ∃ (j g G : Nat), j ≤ t.rs.length ∧ k = t.rs.length - j ∧ st = ⟨[(1, .ptr 0 0 0 0), (2, .ptr 1 1 0 0), (3, .ptr 2 2 0 0), (4, .int .i64 j)], [(0, some (.row 3 [tideC t ex] 0 true)), (1, some (.row 3 [[.int .i64 0, .int .i64 0, .il [] true]] 1 true)), (2, some (.row 3 [[.int .i64 t.sun, .int .i64 t.moon, .sl 3 g 0 j]] 2 true)), (3, some (.row 2 (pairs (t.rs.take j)) g true))], 4, G⟩) ?_ (View.norm _ [1, 2, 3, 4] [0, 1, 2, 3] 4 4 (by simp)) ⟨0, 3, 4, by omega, rfl, by simp⟩
      rintro k st ⟨j, g, G1, hj, rfl, rfl⟩
      refine .seq (.step X0.sound (by kernel_rfl) (by simp; exact rfl) ?_) -- region 3
      refine .cond_split (by simp; exact rfl) (fun hc => ?_) (fun hc => ?_) -- t14
      · have hj' : j < t.rs.length := by simpa using hc
        have hw1 : IntKind.i64.wrap ((j : Int) + 1) = (j : Int) + 1 := wrap64 (by omega) (by omega)
        have hroom : (j + 1) * 16 ≤ room := by simp [room]; omega
        have hml : min j t.rs.length = j := by omega
        have htk : pairs (t.rs.take (j + 1)) = List.take j (pairs t.rs) ++ [[.int .i64 t.rs[j].1, .int .i64 t.rs[j].2]] := by
          rw [List.take_succ_eq_append_getElem hj', pairs, List.map_append, List.map_take]
          rfl
        refine .skip (.seq (.block ?_))
        refine .drawn mixed X0.sound (by kernel_rfl) (by kernel_rfl) (runD_tr (by simp [hj', elems, appR, hroom, hml]; exact ⟨rfl, rfl⟩)) (looseB_spec (by kernel_rfl)) ?_ -- region 5
        refine .region X0.sound (by kernel_rfl) (by simp [hw1]; exact rfl) ?_ -- region 4
        refine ⟨_, _, View.norm _ [1, 2, 3, 4] [0, 1, 2, 3] 4 (G1 + 2) (by simp), ?_, j + 1, G1 + 1, G1 + 2, by omega, rfl, ?_⟩
        · omega
        · rw [htk]
          simp [List.take_take]
      · have : j = t.rs.length := by simp at hc; omega
        subst this
        refine .exit ?_
        refine .view (View.fzCell _ 2 2 3 3 g 2 2 0 t.rs.length true true [.int .i64 t.sun, .int .i64 t.moon, .sl 3 g 0 t.rs.length] (pairs (t.rs.take t.rs.length)) (by simp) rfl (by simp) (by simp)) ?_
        refine .step X0.sound (by kernel_rfl) (by simp; exact rfl) ?_ -- region 6
        exact .ret ⟨.inr rfl, ends_free (l := [.cell 2 28]) rfl (rs := [tideA t false]) (by simp) (fun k => by simp) (all1 (free_tide t false))⟩
    · exact (rd_fail h).elim
  · exact (rd_fail h).elim

end Go.Proofs.Ytlidakhdcnkabaa

namespace Go.Proofs.Ytlidakhdcnkabaa
open Go.AI
set_option linter.unusedSimpArgs false

/-- Numbers in pairs. -/
def pairUp : List Int → List (Int × Int)
  | a :: b :: l => (a, b) :: pairUp l
  | _ => []

def recordS : FSpec := fun xs nx G => match xs with
  | [.int .i64 a, .int .i64 b, .il es _] => ofOpt (asInts es) fun l => if l.length ≤ 100 then valR nx G (tideA ⟨a, b, pairUp l⟩ (decide (l.length < 2))) else .fail
  | _ => .fail

theorem pairUp_snoc (l : List Int) : ∀ (j : Nat), 2 * j + 1 < l.length → ∃ x y, l[2 * j]? = some x ∧ l[2 * j + 1]? = some y ∧ (pairUp l).take (j + 1) = (pairUp l).take j ++ [(x, y)] ∧ j < (pairUp l).length := by
  induction l using pairUp.induct with
  | case1 a b l ih =>
    intro j hj
    cases j with
    | zero => exact ⟨a, b, rfl, rfl, by simp [pairUp], by simp [pairUp]⟩
    | succ j =>
      obtain ⟨x, y, h1, h2, h3, h4⟩ := ih j (by simp only [List.length_cons] at hj; omega)
      refine ⟨x, y, ?_, ?_, ?_, by simpa [pairUp] using h4⟩
      · have : 2 * (j + 1) = 2 * j + 1 + 1 := by omega
        rw [this]; simpa using h1
      · have : 2 * (j + 1) + 1 = 2 * j + 1 + 1 + 1 := by omega
        rw [this]; simpa using h2
      · simp only [pairUp, List.take_succ_cons, List.cons_append, h3]
  | case2 l h =>
    intro j hj
    match l, h, hj with
    | [], _, hj => simp at hj
    | [_], _, hj => simp at hj
    | a :: b :: l, h, _ => exact absurd rfl (h a b l)

theorem pairUp_len (l : List Int) : 2 * (pairUp l).length ≤ l.length ∧ l.length ≤ 2 * (pairUp l).length + 1 := by
  induction l using pairUp.induct with
  | case1 a b l ih => simp only [pairUp, List.length_cons]; omega
  | case2 l h =>
    match l, h with
    | [], _ => simp [pairUp]
    | [_], _ => simp [pairUp]
    | a :: b :: l, h => exact absurd rfl (h a b l)

theorem record_sound : FSound Try.prog 39 recordS := by
  refine fsound_pure Try.func39 (by kernel_rfl) rfl _ fun xs nx G d hp h => ?_
  unfold recordS at h
  split at h
  · rename_i a b es ex
    replace h := rd_opt h; obtain ⟨l, hl, h⟩ := h
    have := asInts_some hl; subst this
    split at h
    · rename_i hlen
      have hd := rd_val h
      subst hd
      refine ⟨by simp [Try.f39], all3 (.int _ _) (.int _ _) (free_ints _ _), ?_⟩
      refine .step X0.sound (by kernel_rfl) (by simp; exact rfl) ?_ -- region 0
      refine .step X0.sound (by kernel_rfl) (by simp; exact rfl) ?_ -- region 1
      have hw0 : IntKind.i64.wrap 1 = 1 := wrap64 (by omega) (by omega)
      by_cases h2 : l.length < 2
      · have hp0 : pairUp l = [] := by
          have := (pairUp_len l).1
          exact List.eq_nil_of_length_eq_zero (by omega)
        rw [hp0, decide_eq_true h2]
        refine .seq (.step X0.sound (by kernel_rfl) (by simp; exact rfl) (.block ?_)) -- region 2
        refine .loopV (fun k st => st = ⟨[(2, .il (ints l) ex), (6, .ptr 0 0 0 0), (7, .ptr 1 1 0 0), (8, .int .i64 0)], [(0, some (.row 3 [[.int .i64 0, .int .i64 0, .il [] true]] 0 true)), (1, some (.row 3 [[.int .i64 a, .int .i64 b, .il [] true]] 1 true))], 2, 2⟩) ?_ (View.norm _ [2, 6, 7, 8] [0, 1] 2 2 (by simp)) (m := 0) (by simp)
        rintro k st rfl
        refine .seq (.step X0.sound (by kernel_rfl) (by simp [hw0]; exact rfl) ?_) -- region 3
        refine .cond (t := false) (by simp; omega) (.exit ?_)
        refine .step X0.sound (by kernel_rfl) (by simp; exact rfl) ?_ -- region 6
        exact .ret ⟨.inr rfl, ends_free (l := [.cell 6 24]) rfl (rs := [.agg [.int .i64 a, .int .i64 b, .il [] true]]) (by simp) (fun k => by simp) (all1 (by simp))⟩
      · rw [decide_eq_false h2]
        have hpl := pairUp_len l
        refine .view (View.norm _ [2, 6, 7] [0, 1] 2 2 (by simp)) ?_
        refine .view (View.virtCell _ 1 1 3 2 2 2 true true [.int .i64 a, .int .i64 b, .il [] true] (by simp) rfl (by simp)) ?_
        refine .seq (.step X0.sound (by kernel_rfl) (by simp; exact rfl) (.block ?_)) -- region 2
        refine .loopV (fun k st => ∃ (j g G : Nat), j ≤ (pairUp l).length ∧ k = (pairUp l).length - j ∧ st = ⟨[(2, .il (ints l) ex), (6, .ptr 0 0 0 0), (7, .ptr 1 1 0 0), (8, .int .i64 ((2 * j : Nat) : Int))], [(0, some (.row 3 [[.int .i64 0, .int .i64 0, .il [] true]] 0 true)), (1, some (.row 3 [[.int .i64 a, .int .i64 b, .sl 2 g 0 j]] 1 true)), (2, some (.row 2 (pairs ((pairUp l).take j)) g true))], 3, G⟩) ?_ (View.norm _ [2, 6, 7, 8] [0, 1, 2] 3 3 (by simp)) ⟨0, 2, 3, by omega, rfl, by simp⟩
        rintro k st ⟨j, g, G1, hj, rfl, rfl⟩
        have hw1 : IntKind.i64.wrap (2 * (j : Int) + 1) = 2 * (j : Int) + 1 := wrap64 (by omega) (by omega)
        refine .seq (.step X0.sound (by kernel_rfl) (by simp [hw1]; exact rfl) ?_) -- region 3
        refine .cond_split (by simp; exact rfl) (fun hc => ?_) (fun hc => ?_) -- t16
        · have hj' : 2 * j + 1 < l.length := by
            have : 2 * (j : Int) + 1 < l.length := by simpa using hc
            omega
          obtain ⟨x, y, hx, hy, htk, hjl⟩ := pairUp_snoc l j hj'
          have hroom : (j + 1) * 16 ≤ room := by simp [room]; omega
          have hw2 : IntKind.i64.wrap (2 * (j : Int) + 2) = 2 * (j : Int) + 2 := wrap64 (by omega) (by omega)
          have hml : min j (pairUp l).length = j := by omega
          have g1 : (0 : Int) ≤ 2 * (j : Int) := by omega
          have g2 : 2 * (j : Int) < l.length := by omega
          have g3 : (0 : Int) ≤ 2 * (j : Int) + 1 := by omega
          have g4 : 2 * (j : Int) + 1 < l.length := by omega
          have g5 : (2 * (j : Int)).toNat = 2 * j := by omega
          have g6 : (2 * (j : Int) + 1).toNat = 2 * j + 1 := by omega
          have g7 : 2 * ((j : Int) + 1) = 2 * (j : Int) + 2 := by omega
          have htp : pairs ((pairUp l).take (j + 1)) = List.take j (pairs (pairUp l)) ++ [[.int .i64 x, .int .i64 y]] := by
            rw [htk, pairs, List.map_append, List.map_take]
            rfl
          refine .skip (.seq (.block ?_))
          refine .drawn mixed X0.sound (by kernel_rfl) (by kernel_rfl) (runD_tr (by simp [hw1, hx, hy, g1, g2, g3, g4, g5, g6, elems, appR, hroom, hml]; exact ⟨rfl, rfl⟩)) (looseB_spec (by kernel_rfl)) ?_ -- region 5
          refine .region X0.sound (by kernel_rfl) (by simp [hw2]; exact rfl) ?_ -- region 4
          refine ⟨_, _, View.norm _ [2, 6, 7, 8] [0, 1, 2] 3 (G1 + 2) (by simp), ?_, j + 1, G1 + 1, G1 + 2, by omega, rfl, ?_⟩
          · omega
          · rw [htp]
            simp [List.take_take, g7]
        · have : j = (pairUp l).length := by
            have : ¬ 2 * (j : Int) + 1 < l.length := by simpa using hc
            omega
          subst this
          refine .exit ?_
          refine .view (View.fzCell _ 1 1 3 2 g 2 2 0 (pairUp l).length true true [.int .i64 a, .int .i64 b, .sl 2 g 0 (pairUp l).length] (pairs ((pairUp l).take (pairUp l).length)) (by simp) rfl (by simp) (by simp)) ?_
          refine .step X0.sound (by kernel_rfl) (by simp; exact rfl) ?_ -- region 6
          exact .ret ⟨.inr rfl, ends_free (l := [.cell 6 24]) rfl (rs := [tideA ⟨a, b, pairUp l⟩ false]) (by simp) (fun k => by simp) (all1 (free_tide ⟨a, b, pairUp l⟩ false))⟩
    · exact (rd_fail h).elim
  · exact (rd_fail h).elim

/-- The chapter's examples. -/
def tR : Tide := ⟨3, 2, [(0, 15), (1, 23), (2, 16), (3, 24)]⟩
def tT : Tide := ⟨3, 2, [(0, 15), (1, 23), (2, 16), (3, 24), (5, 99)]⟩
def tU : Tide := ⟨3, 2, [(0, 15), (1, 23), (2, 16), (5, 99)]⟩

def exS (t : Tide) : FSpec := fun xs nx G => match xs with
  | [] => valR nx G (tideA t false)
  | _ => .fail

def X17 : Ext := .of [(39, recordS)] []
theorem X17.sound : X17.Sound Try.prog := Ext.of_sound ⟨record_sound, trivial⟩
@[simp] theorem X17.raw_ (f : FuncId) : X17.raw f = false := rfl
@[simp] theorem X17.s39 : X17.spec 39 = recordS := rfl

theorem R_sound : FSound Try.prog 40 (exS tR) := by
  refine fsound_pure Try.func40 (by kernel_rfl) rfl _ fun xs nx G d hp h => ?_
  unfold exS at h
  split at h
  · have hd := rd_val h
    subst hd
    refine ⟨by simp, by simp, ?_⟩
    refine .step X17.sound (by kernel_rfl) (by simp; exact rfl) ?_ -- region 0
    refine .step X17.sound (by kernel_rfl) (by simp [recordS, asInts, asInt, pairUp]; exact rfl) ?_ -- region 1
    exact .ret ⟨.inr rfl, ends_free (l := [.cell 0 24]) rfl (rs := [tideA tR false]) (by simp [tR]) (fun k => by simp) (all1 (free_tide tR false))⟩
  · exact (rd_fail h).elim

theorem T_sound : FSound Try.prog 41 (exS tT) := by
  refine fsound_pure Try.func41 (by kernel_rfl) rfl _ fun xs nx G d hp h => ?_
  unfold exS at h
  split at h
  · have hd := rd_val h
    subst hd
    refine ⟨by simp, by simp, ?_⟩
    refine .step X17.sound (by kernel_rfl) (by simp; exact rfl) ?_ -- region 0
    refine .step X17.sound (by kernel_rfl) (by simp [recordS, asInts, asInt, pairUp]; exact rfl) ?_ -- region 1
    exact .ret ⟨.inr rfl, ends_free (l := [.cell 0 24]) rfl (rs := [tideA tT false]) (by simp [tT]) (fun k => by simp) (all1 (free_tide tT false))⟩
  · exact (rd_fail h).elim

theorem U_sound : FSound Try.prog 42 (exS tU) := by
  refine fsound_pure Try.func42 (by kernel_rfl) rfl _ fun xs nx G d hp h => ?_
  unfold exS at h
  split at h
  · have hd := rd_val h
    subst hd
    refine ⟨by simp, by simp, ?_⟩
    refine .step X17.sound (by kernel_rfl) (by simp; exact rfl) ?_ -- region 0
    refine .step X17.sound (by kernel_rfl) (by simp [recordS, asInts, asInt, pairUp]; exact rfl) ?_ -- region 1
    exact .ret ⟨.inr rfl, ends_free (l := [.cell 0 24]) rfl (rs := [tideA tU false]) (by simp [tU]) (fun k => by simp) (all1 (free_tide tU false))⟩
  · exact (rd_fail h).elim

end Go.Proofs.Ytlidakhdcnkabaa

namespace Go.Proofs.Ytlidakhdcnkabaa
open Go.AI
set_option linter.unusedSimpArgs false

def X18 : Ext := .of [(40, exS tR), (41, exS tT), (42, exS tU), (14, WavesS), (16, PartsS), (33, ValueS), (27, ClashS), (23, SuspectsS), (37, enoughS), (18, numbersS), (19, fitsS), (25, VerifyS)] []
theorem X18.sound : X18.Sound Try.prog := Ext.of_sound ⟨R_sound, T_sound, U_sound, Waves_sound, Parts_sound, Value_sound, Clash_sound, Suspects_sound, enough_sound, numbers_sound, fits_sound, Verify_sound, trivial⟩
@[simp] theorem X18.raw_ (f : FuncId) : X18.raw f = false := rfl
@[simp] theorem X18.s40 : X18.spec 40 = exS tR := rfl
@[simp] theorem X18.s41 : X18.spec 41 = exS tT := rfl
@[simp] theorem X18.s42 : X18.spec 42 = exS tU := rfl
@[simp] theorem X18.s14 : X18.spec 14 = WavesS := rfl
@[simp] theorem X18.s16 : X18.spec 16 = PartsS := rfl
@[simp] theorem X18.s33 : X18.spec 33 = ValueS := rfl
@[simp] theorem X18.s27 : X18.spec 27 = ClashS := rfl
@[simp] theorem X18.s23 : X18.spec 23 = SuspectsS := rfl
@[simp] theorem X18.s37 : X18.spec 37 = enoughS := rfl
@[simp] theorem X18.s18 : X18.spec 18 = numbersS := rfl
@[simp] theorem X18.s19 : X18.spec 19 = fitsS := rfl
@[simp] theorem X18.s25 : X18.spec 25 = VerifyS := rfl

@[simp] theorem ex_at (t : Tide) (nx G : Nat) : exS t [] nx G = valR nx G (tideA t false) := rfl
@[simp] theorem Waves_at (t : Tide) (ex : Bool) (nx G : Nat) : WavesS [tideA t ex] nx G = .ret ⟨.tup [.sl nx G 0 (wavesT t).1.length, .sl (nx + 1) (G + 1) 0 (wavesT t).2.1.length, .int .i64 (wavesT t).2.2], [(nx, some (.row 1 (ints (wavesT t).1) G true)), (nx + 1, some (.row 1 (ints (wavesT t).2.1) (G + 1) true))], nx + 2, G + 2⟩ := by simp [WavesS]
@[simp] theorem Parts_at (t : Tide) (ex : Bool) (nx G : Nat) : PartsS [tideA t ex] nx G = valR nx G (.tup [.int .i64 (partsT t).1, .int .i64 (partsT t).2]) := by simp [PartsS]
@[simp] theorem Value_at (t : Tide) (ex : Bool) (h : Int) (nx G : Nat) : ValueS [tideA t ex, .int .i64 h] nx G = valR nx G (.tup [.int .i64 (valT t h).1, .int .i64 (valT t h).2]) := by simp [ValueS]
theorem Clash_at (t : Tide) (ex : Bool) (c : List Int × Int) (hc : clashT t = some c) (nx G : Nat) : ClashS [tideA t ex] nx G = valR nx G (.tup [.il (ints c.1) (decide (c.2 ≠ 0)), .int .i64 c.2]) := by simp [ClashS, hc]
@[simp] theorem Suspects_at (t : Tide) (ex : Bool) (nx G : Nat) : SuspectsS [tideA t ex] nx G = valR nx G (.tup [.il (ints (suspT t).1) (decide ((suspT t).2 ≠ 0)), .int .i64 (suspT t).2]) := by simp [SuspectsS]
@[simp] theorem fits_at (t : Tide) (ex : Bool) (nx G : Nat) : fitsS [tideA t ex] nx G = valR nx G (.int .i64 (solvedT t).2) := by simp [fitsS]
@[simp] theorem Verify_at (t : Tide) (ex e1 : Bool) (l : List Int) (nx G : Nat) : VerifyS [tideA t ex, .il (ints l) e1] nx G = valR nx G (.int .i64 (verifyT t l)) := by simp [VerifyS]
@[simp] theorem numbers_at (a b : List Int) (e1 e2 : Bool) (nx G : Nat) : numbersS [.il (ints a) e1, .il (ints b) e2] nx G = valR nx G (.bool (a == b)) := by simp [numbersS]

def worksS : FSpec := fun xs nx G => match xs with
  | [] => valR nx G (.bool true)
  | _ => .fail

theorem ex1 : wavesT tR = ([0, -1, 1], [15, 24], 0) := by kernel_rfl
theorem ex2 : partsT tR = (1, 0) := by kernel_rfl
theorem ex3 : valT tR 4 = (14, 0) := by kernel_rfl
theorem ex4 : clashT tT = some ([3, 0, 2, 4], 0) := by kernel_rfl
theorem ex5 : suspT tT = ([0, 2, 3, 4], 0) := by kernel_rfl
theorem ex6 : valT tU 4 = (-60, 0) := by kernel_rfl
theorem ex7 : (solvedT tT).2 = 13 := by kernel_rfl
theorem ex8 : verifyT tT [0, 3, 4, 2] = 0 := by kernel_rfl
theorem ex9 : verifyT tT [0, 1] = 5 := by kernel_rfl
theorem ex10 : verifyT tR [0, 0] = 12 := by kernel_rfl

theorem ex11 : verifyT tT [3, 0, 2, 4] = 0 := by kernel_rfl

theorem enough_at (nx G : Nat) : enoughS [.int .i64 4, .int .i64 6] nx G = valR nx G (.tup [.int .i64 8, .int .i64 0]) := by simp [enoughS]
theorem ver_at (t : Tide) (l : List (List AVal)) (xs : List Int) (h : asInts l = some xs) (e1 : Bool) (nx G : Nat) : VerifyS [tideA t false, .il l e1] nx G = valR nx G (.int .i64 (verifyT t xs)) := by simp [VerifyS, h]
theorem num_at (l m : List (List AVal)) (xs ys : List Int) (h : asInts l = some xs) (h2 : asInts m = some ys) (e1 e2 : Bool) (nx G : Nat) : numbersS [.il l e1, .il m e2] nx G = valR nx G (.bool (xs == ys)) := by simp [numbersS, h, h2]

theorem works_sound : FSound Try.prog 12 worksS := by
  refine fsound_pure Try.func12 (by kernel_rfl) rfl _ fun xs nx G d hp h => ?_
  unfold worksS at h
  split at h
  · have hd := rd_val h
    subst hd
    refine ⟨by simp, by simp, ?_⟩
    have hcl := Clash_at tT false _ ex4
    refine .step X18.sound (by kernel_rfl) (by simp; exact rfl) ?_ -- region 0
    refine .step X18.sound (by kernel_rfl) (by simp [ex1]; exact rfl) ?_ -- region 1
    refine .step X18.sound (by kernel_rfl) (by simp [ex2]; exact rfl) ?_ -- region 2
    refine .step X18.sound (by kernel_rfl) (by simp [ex3]; exact rfl) ?_ -- region 3
    refine .step X18.sound (by kernel_rfl) (by simp [hcl]; exact rfl) ?_ -- region 4
    refine .step X18.sound (by kernel_rfl) (by simp [ex5]; exact rfl) ?_ -- region 5
    refine .step X18.sound (by kernel_rfl) (by simp [ex6]; exact rfl) ?_ -- region 6
    refine .step X18.sound (by kernel_rfl) (by simp [enough_at]; exact rfl) ?_ -- region 7
    refine .norm (s1 := ⟨[(1, .sl 0 0 0 3), (2, .sl 1 1 0 2), (3, .int .i64 0), (4, .int .i64 1), (5, .int .i64 0), (6, .int .i64 14), (7, .int .i64 0), (8, .il (ints [3, 0, 2, 4]) false), (9, .int .i64 0), (10, .il (ints [0, 2, 3, 4]) false), (11, .int .i64 0), (12, .int .i64 (-60)), (13, .int .i64 0), (14, .int .i64 8), (15, .int .i64 0)], [(0, some (.row 1 (ints [0, -1, 1]) 0 true)), (1, some (.row 1 (ints [15, 24]) 1 true))], 2, 2⟩) [1, 2, 3, 4, 5, 6, 7, 8, 9, 10, 11, 12, 13, 14, 15] [0, 1] 2 2 (by simp) (by simp) ?_
    refine .seq (.step X18.sound (by kernel_rfl) (by simp; exact rfl) ?_) -- region 8
    refine .cond (t := false) (by simp) (.skip ?_)
    refine .norm (s1 := ⟨[(1, .sl 0 0 0 3), (2, .sl 1 1 0 2), (8, .il (ints [3, 0, 2, 4]) false), (10, .il (ints [0, 2, 3, 4]) false)], [(0, some (.row 1 (ints [0, -1, 1]) 0 true)), (1, some (.row 1 (ints [15, 24]) 1 true))], 2, 2⟩) [1, 2, 8, 10] [0, 1] 2 2 (by simp) (by simp) ?_
    have n1 := num_at (ints [0, -1, 1]) (ints [0, -1, 1]) [0, -1, 1] [0, -1, 1] rfl rfl
    have n2 := num_at (ints [15, 24]) (ints [15, 24]) [15, 24] [15, 24] rfl rfl
    have n3 := num_at (ints [0, 2, 3, 4]) (ints [0, 2, 3, 4]) [0, 2, 3, 4] [0, 2, 3, 4] rfl rfl
    have v1 := ver_at tT (ints [3, 0, 2, 4]) [3, 0, 2, 4] rfl
    have v2 := ver_at tT (ints [0, 3, 4, 2]) [0, 3, 4, 2] rfl
    have v3 := ver_at tT (ints [0, 1]) [0, 1] rfl
    have v4 := ver_at tR (ints [0, 0]) [0, 0] rfl
    rw [ex11] at v1
    rw [ex8] at v2
    rw [ex9] at v3
    rw [ex10] at v4
    simp only [ints, List.map_cons, List.map_nil] at n1 n2 n3 v1 v2 v3 v4
    refine .step X18.sound (by kernel_rfl) (by simp [n1, n2, n3, v1, v2, v3, v4, ex7]; exact rfl) ?_ -- region 10
    exact .ret ⟨.inr rfl, ends_free (l := [.tmp 0]) rfl (rs := [_]) (by simp) (fun k => by simp) (by simp)⟩
  · exact (rd_fail h).elim

end Go.Proofs.Ytlidakhdcnkabaa

namespace Go.Proofs.Ytlidakhdcnkabaa
open Go.AI
set_option linter.unusedSimpArgs false

def X19 : Ext := .of [(12, worksS), (13, givenS), (14, WavesS), (15, RWavesS), (16, PartsS), (17, RPartsS), (18, numbersS), (19, fitsS), (20, RFitsS), (21, checkS), (22, checkS), (33, ValueS), (34, RValueS), (35, FollowS), (36, RFollowS), (23, SuspectsS), (24, RSuspectsS), (25, VerifyS), (26, RVerifyS), (27, ClashS)] []
theorem X19.sound : X19.Sound Try.prog := Ext.of_sound ⟨works_sound, given_sound, Waves_sound, RWaves_sound, Parts_sound, RParts_sound, numbers_sound, fits_sound, RFits_sound, check_sound, refCheck_sound, Value_sound, RValue_sound, Follow_sound, RFollow_sound, Suspects_sound, RSuspects_sound, Verify_sound, RVerify_sound, Clash_sound, trivial⟩
@[simp] theorem X19.raw_ (f : FuncId) : X19.raw f = false := rfl
@[simp] theorem X19.s12 : X19.spec 12 = worksS := rfl
@[simp] theorem X19.s13 : X19.spec 13 = givenS := rfl
@[simp] theorem X19.s14 : X19.spec 14 = WavesS := rfl
@[simp] theorem X19.s15 : X19.spec 15 = RWavesS := rfl
@[simp] theorem X19.s16 : X19.spec 16 = PartsS := rfl
@[simp] theorem X19.s17 : X19.spec 17 = RPartsS := rfl
@[simp] theorem X19.s18 : X19.spec 18 = numbersS := rfl
@[simp] theorem X19.s19 : X19.spec 19 = fitsS := rfl
@[simp] theorem X19.s20 : X19.spec 20 = RFitsS := rfl
@[simp] theorem X19.s21 : X19.spec 21 = checkS := rfl
@[simp] theorem X19.s22 : X19.spec 22 = checkS := rfl
@[simp] theorem X19.s33 : X19.spec 33 = ValueS := rfl
@[simp] theorem X19.s34 : X19.spec 34 = RValueS := rfl
@[simp] theorem X19.s35 : X19.spec 35 = FollowS := rfl
@[simp] theorem X19.s36 : X19.spec 36 = RFollowS := rfl
@[simp] theorem X19.s23 : X19.spec 23 = SuspectsS := rfl
@[simp] theorem X19.s24 : X19.spec 24 = RSuspectsS := rfl
@[simp] theorem X19.s25 : X19.spec 25 = VerifyS := rfl
@[simp] theorem X19.s26 : X19.spec 26 = RVerifyS := rfl
@[simp] theorem X19.s27 : X19.spec 27 = ClashS := rfl

@[simp] theorem works_at (nx G : Nat) : worksS [] nx G = valR nx G (.bool true) := rfl
theorem given_at (t : Tide) (ex : Bool) (h : t.rs.length ≤ 80) (nx G : Nat) : givenS [tideA t ex] nx G = valR nx G (tideA t false) := by simp [givenS, h]
@[simp] theorem RWaves_at (t : Tide) (ex : Bool) (nx G : Nat) : RWavesS [tideA t ex] nx G = .ret ⟨.tup [.sl nx G 0 (rWavesT t).1.length, .sl (nx + 1) (G + 1) 0 (rWavesT t).2.1.length, .int .i64 (rWavesT t).2.2], [(nx, some (.row 1 (ints (rWavesT t).1) G true)), (nx + 1, some (.row 1 (ints (rWavesT t).2.1) (G + 1) true))], nx + 2, G + 2⟩ := by simp [RWavesS]
@[simp] theorem RParts_at (t : Tide) (ex : Bool) (nx G : Nat) : RPartsS [tideA t ex] nx G = valR nx G (.tup [.int .i64 (rPartsT t).1, .int .i64 (rPartsT t).2]) := by simp [RPartsS]
@[simp] theorem RValue_at (t : Tide) (ex : Bool) (h : Int) (nx G : Nat) : RValueS [tideA t ex, .int .i64 h] nx G = valR nx G (.tup [.int .i64 (rValT t h).1, .int .i64 (rValT t h).2]) := by simp [RValueS]
@[simp] theorem Follow_at (t : Tide) (ex : Bool) (a b : Int) (nx G : Nat) : FollowS [tideA t ex, .int .i64 a, .int .i64 b] nx G = valR nx G (.tup [.il (pairs (followT t a b).1) (decide ((followT t a b).2 ≠ 0)), .int .i64 (followT t a b).2]) := by simp [FollowS]
@[simp] theorem RFollow_at (t : Tide) (ex : Bool) (a b : Int) (nx G : Nat) : RFollowS [tideA t ex, .int .i64 a, .int .i64 b] nx G = valR nx G (.tup [.il (pairs (rFollowT t a b).1) (decide ((rFollowT t a b).2 ≠ 0)), .int .i64 (rFollowT t a b).2]) := by simp [RFollowS]
@[simp] theorem RSuspects_at (t : Tide) (ex : Bool) (nx G : Nat) : RSuspectsS [tideA t ex] nx G = valR nx G (.tup [.il (ints (rSuspT t).1) (decide ((rSuspT t).2 ≠ 0)), .int .i64 (rSuspT t).2]) := by simp [RSuspectsS]
@[simp] theorem RVerify_at (t : Tide) (ex e1 : Bool) (l : List Int) (nx G : Nat) : RVerifyS [tideA t ex, .il (ints l) e1] nx G = valR nx G (.int .i64 (rVerifyT t l)) := by simp [RVerifyS]

def lawS : FSpec := fun xs nx G => match xs with
  | [r] => ofOpt (asTide r) fun _ => valR nx G (.bool true)
  | _ => .fail

theorem law3_sound : FSound Try.prog 3 lawS := by
  refine fsound_pure Try.func3 (by kernel_rfl) rfl _ fun xs nx G d hp h => ?_
  unfold lawS at h
  split at h
  · rename_i r
    replace h := rd_opt h; obtain ⟨t, ht, h⟩ := h
    obtain ⟨ex, rfl⟩ := asTide_some ht
    have hd := rd_val h
    subst hd
    refine ⟨by simp [Try.f3], all1 (free_tide t ex), ?_⟩
    refine .step X19.sound (by kernel_rfl) (by simp; exact rfl) ?_ -- region 0
    refine .seq (.step X19.sound (by kernel_rfl) (by simp; exact rfl) ?_) -- region 1
    refine .cond_split (by simp; exact rfl) (fun hc => ?_) (fun hc => ?_) -- t17
    · refine .step X19.sound (by kernel_rfl) (by simp; exact rfl) ?_ -- region 2
      exact .ret ⟨.inr rfl, ends_free (l := [.tmp 2]) rfl (rs := [_]) (by simp) (fun k => by simp) (by simp)⟩
    · have hl : t.rs.length ≤ 80 := by simp at hc; omega
      refine .skip ?_
      refine .step X19.sound (by kernel_rfl) (by simp [given_at, hl]; exact rfl) ?_ -- region 3
      refine .step X19.sound (by kernel_rfl) (by simp; exact rfl) ?_ -- region 4
      refine .step X19.sound (by kernel_rfl) (by simp; exact rfl) ?_ -- region 5
      refine .step X19.sound (by kernel_rfl) (by simp; exact rfl) ?_ -- region 6
      refine .step X19.sound (by kernel_rfl) (by simp; exact rfl) ?_ -- region 7
      refine .draw mixed X19.sound (by kernel_rfl) (by kernel_rfl) rfl (by simp [waves_same, parts_same, fits_same]; exact ⟨rfl, rfl⟩) (looseB_spec (by kernel_rfl)) ?_ -- region 8
      exact .ret ⟨.inr rfl, ends_free (l := [.tmp 2]) rfl (rs := [_]) (by simp) (fun k => by simp) (by simp)⟩
  · exact (rd_fail h).elim

end Go.Proofs.Ytlidakhdcnkabaa
