/- Skies; made: a record of true values. made, walked. wrong: a record some of whose values are not true, walked. No condition. -/
import Derived.Test.YtlidakhdcnkabaaM20
namespace Go.Proofs.Ytlidakhdcnkabaa
open Go.AI
set_option linter.unusedSimpArgs false

@[simp] theorem ti5 : tiOf Try.prog 5 = some ⟨1, false, .int .u8 0, 1, .int .u8⟩ := by kernel_rfl
@[simp] theorem ti48 : tiOf Try.prog 48 = some ⟨1, false, .il [] true, 24, .slice 5⟩ := by kernel_rfl
@[simp] theorem ti49 : tiOf Try.prog 49 = some ⟨10, true, .agg (List.replicate 10 (.int .u8 0)), 10, .arr 10 5⟩ := by kernel_rfl
@[simp] theorem ti51 : tiOf Try.prog 51 = some ⟨14, true, .agg ([.int .u8 0, .int .u8 0, .il [] true] ++ List.replicate 10 (.int .u8 0) ++ [.il [] true]), 72, .strct [(0, 5, false), (1, 5, false), (2, 48, false), (3, 49, false), (13, 48, false)]⟩ := by kernel_rfl

structure Sky where
  sun : Int
  moon : Int
  hours : List Int
  waves : List Int
  wrong : List Int

def u8 (n : Int) : Prop := 0 ≤ n ∧ n ≤ 255

structure Sky.Ok (s : Sky) : Prop where
  sun : u8 s.sun
  moon : u8 s.moon
  hours : ∀ n ∈ s.hours, u8 n
  waves : ∀ n ∈ s.waves, u8 n
  wrong : ∀ n ∈ s.wrong, u8 n
  ten : s.waves.length = 10

abbrev bytes (l : List Int) : List (List AVal) := l.map fun n => [.int .u8 n]

def skyC (s : Sky) (eh ew : Bool) : List AVal := ([.int .u8 s.sun, .int .u8 s.moon, .il (bytes s.hours) eh] ++ s.waves.map fun n => .int .u8 n) ++ [.il (bytes s.wrong) ew]

section
variable {s : Sky} (eh ew : Bool)
theorem skyC_len (h : s.Ok) : (skyC s eh ew).length = 14 := by simp [skyC, h.ten]
theorem skyC_0 : (skyC s eh ew)[0]? = some (.int .u8 s.sun) := by simp [skyC]
theorem skyC_1 : (skyC s eh ew)[1]? = some (.int .u8 s.moon) := by simp [skyC]
theorem skyC_2 : (skyC s eh ew)[2]? = some (.il (bytes s.hours) eh) := by simp [skyC]
theorem skyC_13 (h : s.Ok) : (skyC s eh ew)[13]? = some (.il (bytes s.wrong) ew) := by
  have hl : ([AVal.int .u8 s.sun, .int .u8 s.moon, .il (bytes s.hours) eh] ++ s.waves.map fun n => AVal.int .u8 n).length = 13 := by simp [h.ten]
  unfold skyC
  rw [List.getElem?_append_right (by omega), hl]
  rfl
theorem skyC_w (h : s.Ok) {j : Nat} (hj : j < 10) : (skyC s eh ew)[3 + j]? = some (.int .u8 (s.waves.getD j 0)) := by
  have hl : ([AVal.int .u8 s.sun, .int .u8 s.moon, .il (bytes s.hours) eh] ++ s.waves.map fun n => AVal.int .u8 n).length = 13 := by simp [h.ten]
  have h10 := h.ten
  unfold skyC
  rw [List.getElem?_append_left (by omega), List.getElem?_append_right (by simp), List.getElem?_map, List.getD_eq_getElem?_getD]
  have : 3 + j - [AVal.int .u8 s.sun, .int .u8 s.moon, .il (bytes s.hours) eh].length = j := by simp
  rw [this, List.getElem?_eq_getElem (by omega)]
  rfl
theorem skyC_sc : (skyC s eh ew).all AVal.sc = true := by simp [skyC, AVal.sc]
theorem skyC_free : ∀ a ∈ skyC s eh ew, Free a := by
  intro a ha
  simp only [skyC, List.mem_append, List.mem_cons, List.not_mem_nil, or_false, List.mem_map] at ha
  have hb : ∀ l : List Int, ∀ e ∈ bytes l, ∀ a ∈ e, Free a := fun l => free_rows _ _ fun x a ha => by simp at ha; subst ha; exact .int _ _
  rcases ha with ((rfl | rfl | rfl) | ⟨n, _, rfl⟩) | rfl
  · exact .int _ _
  · exact .int _ _
  · exact .il _ _ (hb _)
  · exact .int _ _
  · exact .il _ _ (hb _)
end

theorem bytes_inj {a b : List Int} (h : bytes a = bytes b) : a = b := by
  induction a generalizing b with
  | nil => cases b with
    | nil => rfl
    | cons y b => simp at h
  | cons x a ih => cases b with
    | nil => simp at h
    | cons y b =>
      simp only [bytes, List.map_cons, List.cons.injEq, AVal.int.injEq, true_and, and_true] at h
      rw [h.1, ih h.2]

theorem skyC_inj {s s' : Sky} {eh ew eh' ew' : Bool} (h : s.Ok) (h' : s'.Ok) (he : skyC s eh ew = skyC s' eh' ew') : s = s' := by
  have h0 := skyC_0 (s := s) eh ew
  have h1 := skyC_1 (s := s) eh ew
  have h2 := skyC_2 (s := s) eh ew
  have h3 := skyC_13 eh ew h
  have hw : s.waves = s'.waves := by
    apply List.ext_getElem?
    intro j
    by_cases hj : j < 10
    · have a := skyC_w eh ew h hj
      rw [he, skyC_w eh' ew' h' hj] at a
      simp only [Option.some.injEq, AVal.int.injEq, true_and] at a
      have b1 := h.ten
      have b2 := h'.ten
      rw [List.getElem?_eq_getElem (by omega), List.getElem?_eq_getElem (by omega)]
      rw [List.getD_eq_getElem?_getD, List.getD_eq_getElem?_getD, List.getElem?_eq_getElem (by omega), List.getElem?_eq_getElem (by omega)] at a
      simp only [Option.getD_some] at a
      rw [a]
    · have b1 := h.ten
      have b2 := h'.ten
      rw [List.getElem?_eq_none (by omega), List.getElem?_eq_none (by omega)]
  rw [he, skyC_0] at h0
  rw [he, skyC_1] at h1
  rw [he, skyC_2] at h2
  rw [he, skyC_13 eh' ew' h'] at h3
  simp only [Option.some.injEq, AVal.int.injEq, AVal.il.injEq, true_and] at h0 h1 h2 h3
  cases s; cases s'
  simp only at *
  rw [h0, h1, bytes_inj h2.1, bytes_inj h3.1, hw]

theorem fzL_still {α : Type} {f : AVal → (AVal → List Upd → Rd α) → Rd α} : ∀ (vs : List AVal) (k : List AVal → List Upd → Rd α), (∀ v ∈ vs, ∀ k, f v k = k v []) → fzL f vs k = k vs []
  | [], _, _ => rfl
  | v :: vs, k, h => by
    rw [fzL, h v List.mem_cons_self, fzL_still vs _ fun w hw => h w (List.mem_cons_of_mem _ hw)]
    rfl

theorem fz_sky {α : Type} (s : Sky) (eh ew : Bool) (k : List AVal → List Upd → Rd α) : fzL (fz 3) (skyC s eh ew) k = k (skyC s eh ew) [] := by
  refine fzL_still _ _ fun v hv k => ?_
  simp only [skyC, List.mem_append, List.mem_cons, List.not_mem_nil, or_false, List.mem_map] at hv
  rcases hv with ((rfl | rfl | rfl) | ⟨n, _, rfl⟩) | rfl <;> rfl

open Classical in
noncomputable def asSky (v : AVal) : Option Sky := if h : ∃ s, s.Ok ∧ ∃ eh ew, v = .agg (skyC s eh ew) then some h.choose else none

theorem asSky_some {v : AVal} {s : Sky} (h : asSky v = some s) : s.Ok ∧ ∃ eh ew, v = .agg (skyC s eh ew) := by
  unfold asSky at h
  split at h
  · rename_i hh
    simp only [Option.some.injEq] at h
    subst h
    exact hh.choose_spec
  · cases h

theorem asSky_at {s : Sky} (h : s.Ok) (eh ew : Bool) : asSky (.agg (skyC s eh ew)) = some s := by
  have hh : ∃ s', Sky.Ok s' ∧ ∃ eh' ew', AVal.agg (skyC s eh ew) = .agg (skyC s' eh' ew') := ⟨s, h, eh, ew, rfl⟩
  unfold asSky
  rw [dif_pos hh]
  obtain ⟨h1, eh', ew', h2⟩ := hh.choose_spec
  rw [← skyC_inj h h1 (AVal.agg.inj h2)]

/-! ### What is made -/
def mSun (s : Sky) : Int := 1 + s.sun % 5
def mMoon (s : Sky) : Int := 1 + s.moon % 5
def sunsM (s : Sky) : List Int := s.waves.take (mSun s).toNat
def moonsM (s : Sky) : List Int := ((s.waves.drop 5).take (mMoon s).toNat).map fun n => -n
def hrs : Nat → Int → List Int → List Int
  | _, _, [] => []
  | i, h, g :: l => if 7 ≤ i then [] else (if 0 < i ∧ g % 5 = 0 then h + g % 5 + 1 else h + g % 5) :: hrs (i + 1) (if 0 < i ∧ g % 5 = 0 then h + g % 5 + 1 else h + g % 5) l
def trueM (s : Sky) (h : Int) : Int := (sunsM s).getD (h % mSun s).toNat 0 + (moonsM s).getD (h % mMoon s).toNat 0
def madeR (s : Sky) : List (Int × Int) := (hrs 0 0 s.hours).map fun h => (h, trueM s h)
def madeT (s : Sky) : Tide := ⟨mSun s, mMoon s, madeR s⟩

noncomputable def madeS : FSpec := fun xs nx G => match xs with
  | [r] => ofOpt (asSky r) fun s => .ret ⟨.tup [.agg [.int .i64 (mSun s), .int .i64 (mMoon s), .sl nx G 0 (madeR s).length], .il (ints (sunsM s)) false, .il (ints (moonsM s)) false], [(nx, some (.row 2 (pairs (madeR s)) G true))], nx + 1, G + 1⟩
  | _ => .fail

theorem made_at {s : Sky} (h : s.Ok) (eh ew : Bool) (nx G : Nat) : madeS [.agg (skyC s eh ew)] nx G = .ret ⟨.tup [.agg [.int .i64 (mSun s), .int .i64 (mMoon s), .sl nx G 0 (madeR s).length], .il (ints (sunsM s)) false, .il (ints (moonsM s)) false], [(nx, some (.row 2 (pairs (madeR s)) G true))], nx + 1, G + 1⟩ := by
  simp only [madeS, asSky_at h, ofOpt]

theorem hrs_len : ∀ (l : List Int) (i : Nat) (h : Int), (hrs i h l).length ≤ 7 - i
  | [], _, _ => by simp [hrs]
  | g :: l, i, h => by
    unfold hrs
    split
    · simp
    · have := hrs_len l (i + 1) (if 0 < i ∧ g % 5 = 0 then h + g % 5 + 1 else h + g % 5)
      simp only [List.length_cons]
      omega

theorem sunsM_len {s : Sky} (h : s.Ok) : (sunsM s).length = (mSun s).toNat := by
  have h1 := h.ten
  have h2 := h.sun
  unfold u8 at h2
  simp only [sunsM, List.length_take, h1, mSun]
  omega
theorem moonsM_len {s : Sky} (h : s.Ok) : (moonsM s).length = (mMoon s).toNat := by
  have h1 := h.ten
  have h2 := h.moon
  unfold u8 at h2
  simp only [moonsM, List.length_map, List.length_take, List.length_drop, h1, mMoon]
  omega

end Go.Proofs.Ytlidakhdcnkabaa

namespace Go.Proofs.Ytlidakhdcnkabaa
open Go.AI
set_option linter.unusedSimpArgs false

theorem take_getD {l : List Int} {j : Nat} (h : j < l.length) : l.take (j + 1) = l.take j ++ [l.getD j 0] := by
  rw [List.take_add_one, List.getElem?_eq_getElem h, List.getD_eq_getElem?_getD, List.getElem?_eq_getElem h]
  rfl

theorem okEs_bytes (l : List Int) : okEs 1 (bytes l) = true := by simp [okEs, AVal.sc]

theorem free_row_pairs (l : List (Int × Int)) : ∀ e ∈ pairs l, ∀ a ∈ e, Free a := free_rows _ _ fun x a ha => by simp at ha; rcases ha with rfl | rfl <;> exact .int _ _

theorem made_sound : FSound Try.prog 32 madeS := by
  refine fsound_pure Try.func32 (by kernel_rfl) rfl _ fun xs nx G d hp h => ?_
  unfold madeS at h
  split at h
  · rename_i r
    replace h := rd_opt h; obtain ⟨s, hs, h⟩ := h
    obtain ⟨ok, eh, ew, rfl⟩ := asSky_some hs
    simp only [Rd.run, Option.some.injEq] at h
    subst h
    refine ⟨by simp [Try.f32], all1 (.agg _ (skyC_free eh ew)), ?_⟩
    obtain ⟨u1, u2⟩ := ok.sun
    obtain ⟨u3, u4⟩ := ok.moon
    have hlen := skyC_len eh ew ok
    have hsc := skyC_sc (s := s) eh ew
    have p0 := skyC_0 (s := s) eh ew
    have p1 := skyC_1 (s := s) eh ew
    have p2 := skyC_2 (s := s) eh ew
    have pw := fun j => skyC_w eh ew ok (j := j)
    have hsun : 1 ≤ mSun s ∧ mSun s ≤ 5 := by unfold mSun; omega
    have hmoon : 1 ≤ mMoon s ∧ mMoon s ≤ 5 := by unfold mMoon; omega
    have c1 : IntKind.i64.wrap s.sun = s.sun := wrap64 (by omega) (by omega)
    have c2 : IntKind.i64.wrap s.moon = s.moon := wrap64 (by omega) (by omega)
    have c3 : s.sun.tmod 5 = s.sun % 5 := Int.tmod_eq_emod_of_nonneg u1
    have c4 : s.moon.tmod 5 = s.moon % 5 := Int.tmod_eq_emod_of_nonneg u3
    have c5 : IntKind.i64.wrap (1 + s.sun % 5) = mSun s := wrap64 (by unfold mSun at hsun; omega) (by unfold mSun at hsun; omega)
    have c6 : IntKind.i64.wrap (1 + s.moon % 5) = mMoon s := wrap64 (by unfold mMoon at hmoon; omega) (by unfold mMoon at hmoon; omega)
    have hwl := ok.ten
    have fin : ∀ (st : St) (g : Nat), tget st.tmps 2 = .ptr 1 1 0 0 → tget st.tmps 3 = .il (ints (sunsM s)) false → tget st.tmps 4 = .il (ints (moonsM s)) false → hget st.heap 1 = some (.row 3 [[.int .i64 (mSun s), .int .i64 (mMoon s), .sl 4 g 0 (madeR s).length]] 1 true) →
        hget st.heap 4 = some (.row 2 (pairs (madeR s)) g true) → Ends0 Try.prog Try.f32 st nx G ⟨.tup [.agg [.int .i64 (mSun s), .int .i64 (mMoon s), .sl nx G 0 (madeR s).length], .il (ints (sunsM s)) false, .il (ints (moonsM s)) false], [(nx, some (.row 2 (pairs (madeR s)) G true))], nx + 1, G + 1⟩ := by
      intro st g h2 h3 h4 k1 k4
      refine ⟨[.agg [.int .i64 (mSun s), .int .i64 (mMoon s), .sl 4 g 0 (madeR s).length], .il (ints (sunsM s)) false, .il (ints (moonsM s)) false], [.agg [.int .i64 (mSun s), .int .i64 (mMoon s), .sl 4 g 0 (madeR s).length], .il (ints (sunsM s)) false, .il (ints (moonsM s)) false], [],
        [.agg [.int .i64 (mSun s), .int .i64 (mMoon s), .sl nx G 0 (madeR s).length], .il (ints (sunsM s)) false, .il (ints (moonsM s)) false], [(nx, some (.row 2 (pairs (madeR s)) G true))], [4], ?_, ?_, .rowA (b := 4) (cs := [.int .i64 (mSun s), .int .i64 (mMoon s)]) (fun a ha => ?_) (by simp [hupd, k4]) (free_row_pairs _) (.keep (free_ints _ _) (.keep (free_ints _ _) (.nil _ _))), by simp, rfl⟩
      · rw [show Try.f32.results.toList = [.cell 2 24, .tmp 3, .tmp 4] from rfl]; simp [h2, h3, h4, k1]
      · simp [k4]
      · simp only [List.mem_cons, List.not_mem_nil, or_false] at ha
        rcases ha with rfl | rfl <;> exact .int _ _
    refine .step X0.sound (by kernel_rfl) (by simp [hlen, hsc]; exact rfl) ?_ -- region 0
    refine .draw mixed X0.sound (by kernel_rfl) (by kernel_rfl) rfl (by simp [p0, p1, c1, c2, c3, c4, c5, c6]; exact ⟨rfl, rfl⟩) (looseB_spec (by kernel_rfl)) ?_ -- region 1
    refine .view (View.virt _ 3 2 1 true (by simp)) ?_
    refine .view (View.virt _ 4 3 1 true (by simp)) ?_
    refine .view (View.virtCell _ 1 1 3 4 2 2 true true [.int .i64 (mSun s), .int .i64 (mMoon s), .il [] true] (by simp) rfl (by simp)) ?_
    refine .seq (.step X0.sound (by kernel_rfl) (by simp; exact rfl) (.block ?_)) -- region 2
    refine .loopV (fun k st => ∃ (j g g3 g4 G : Nat), k = (mSun s).toNat - j ∧ j ≤ (mSun s).toNat ∧ st = ⟨[(1, .ptr 0 0 0 0), (2, .ptr 1 1 0 0), (3, .sl 2 g 0 j), (4, .sl 3 g3 0 0), (5, .int .i64 j)], [(0, some (.row 14 [skyC s eh ew] 0 true)), (1, some (.row 3 [[.int .i64 (mSun s), .int .i64 (mMoon s), .sl 4 g4 0 0]] 1 true)), (2, some (.row 1 (ints (s.waves.take j)) g true)), (3, some (.row 1 [] g3 true)), (4, some (.row 2 [] g4 true))], 5, G⟩) ?_ (View.norm _ [1, 2, 3, 4, 5] [0, 1, 2, 3, 4] 5 8 (by simp)) ⟨0, _, _, _, _, rfl, Nat.zero_le _, rfl⟩
    rintro k st ⟨j, g, g3, g4, G1, hk, hj, rfl⟩
    refine .seq (.step X0.sound (by kernel_rfl) (by simp; exact rfl) ?_) -- region 3
    refine .cond_split (by simp; exact rfl) (fun hc => ?_) (fun hc => ?_) -- t25
    · have hj' : (j : Int) < mSun s := by simpa using hc
      have q1 : (j : Int) < 10 := by omega
      have q2 := pw j (by omega)
      obtain ⟨x, hx⟩ : ∃ x, s.waves[j]? = some x := ⟨_, List.getElem?_eq_getElem (by omega)⟩
      have hxd : s.waves.getD j 0 = x := by rw [List.getD_eq_getElem?_getD, hx]; rfl
      have q3 : IntKind.i64.wrap x = x := by
        have := ok.waves _ (List.mem_of_getElem? hx)
        unfold u8 at this
        exact wrap64 (by omega) (by omega)
      have q6 : min j s.waves.length = j := Nat.min_eq_left (by omega)
      rw [hxd] at q2
      have q4 : (j + 1) * 8 ≤ room := by simp [room]; omega
      have q5 := take_getD (l := s.waves) (j := j) (by omega)
      rw [hxd] at q5
      have hw1 : IntKind.i64.wrap ((j : Int) + 1) = (j : Int) + 1 := wrap64 (by omega) (by omega)
      refine .skip (.seq (.block ?_))
      refine .region X0.sound (by kernel_rfl) (by simp [elems, appR, hlen, q1, q2, q3, q4, q6]; exact rfl) ?_ -- region 5
      refine .region X0.sound (by kernel_rfl) (by simp [hw1]; exact rfl) ?_ -- region 4
      refine ⟨_, _, View.norm _ [1, 2, 3, 4, 5] [0, 1, 2, 3, 4] 5 (G1 + 2) (by simp), ?_, j + 1, G1 + 1, g3, g4, G1 + 2, rfl, by omega, ?_⟩
      · omega
      · rw [q5]; simp [List.take_take]
    · have hj' : j = (mSun s).toNat := by
        have : ¬ (j : Int) < mSun s := by simpa using hc
        omega
      subst hj'
      refine .exit ?_ -- 0
      refine .seq (.step X0.sound (by kernel_rfl) (by simp; exact rfl) (.block ?_)) -- region 6
      refine .loopV (fun k st => ∃ (j g g3 g4 G : Nat), k = (mMoon s).toNat - j ∧ j ≤ (mMoon s).toNat ∧ st = ⟨[(1, .ptr 0 0 0 0), (2, .ptr 1 1 0 0), (3, .sl 2 g 0 (mSun s).toNat), (4, .sl 3 g3 0 j), (6, .int .i64 j)], [(0, some (.row 14 [skyC s eh ew] 0 true)), (1, some (.row 3 [[.int .i64 (mSun s), .int .i64 (mMoon s), .sl 4 g4 0 0]] 1 true)), (2, some (.row 1 (ints (sunsM s)) g true)), (3, some (.row 1 (ints (((s.waves.drop 5).take j).map fun n => -n)) g3 true)), (4, some (.row 2 [] g4 true))], 5, G⟩) ?_ (View.norm _ [1, 2, 3, 4, 6] [0, 1, 2, 3, 4] 5 G1 (by simp)) ⟨0, g, g3, g4, G1, rfl, Nat.zero_le _, by simp [sunsM]⟩
      rintro k st ⟨j, g, g3, g4, G1, hk, hj, rfl⟩
      refine .seq (.step X0.sound (by kernel_rfl) (by simp; exact rfl) ?_) -- region 7
      refine .cond_split (by simp; exact rfl) (fun hc => ?_) (fun hc => ?_) -- t39
      · have hj' : (j : Int) < mMoon s := by simpa using hc
        have q1 : (5 : Int) + j < 10 := by omega
        have q0 : (0 : Int) ≤ (5 : Int) + j := by omega
        have qt : ((5 : Int) + j).toNat = 5 + j := by omega
        have q2 := pw (5 + j) (by omega)
        obtain ⟨x, hx⟩ : ∃ x, s.waves[5 + j]? = some x := ⟨_, List.getElem?_eq_getElem (by omega)⟩
        have hxd : s.waves.getD (5 + j) 0 = x := by rw [List.getD_eq_getElem?_getD, hx]; rfl
        have hxm := ok.waves _ (List.mem_of_getElem? hx)
        unfold u8 at hxm
        have q3 : IntKind.i64.wrap x = x := wrap64 (by omega) (by omega)
        have q7 : IntKind.i64.wrap (-x) = -x := wrap64 (by omega) (by omega)
        have q6 : min j (s.waves.length - 5) = j := Nat.min_eq_left (by omega)
        rw [hxd] at q2
        have q4 : (j + 1) * 8 ≤ room := by simp [room]; omega
        have q5 := take_getD (l := s.waves.drop 5) (j := j) (by simp; omega)
        have hxd' : (s.waves.drop 5).getD j 0 = x := by rw [List.getD_eq_getElem?_getD, List.getElem?_drop, hx]; rfl
        rw [hxd'] at q5
        have hw1 : IntKind.i64.wrap ((j : Int) + 1) = (j : Int) + 1 := wrap64 (by omega) (by omega)
        have hw5 : IntKind.i64.wrap ((5 : Int) + j) = (5 : Int) + j := wrap64 (by omega) (by omega)
        refine .skip (.seq (.block ?_))
        refine .region X0.sound (by kernel_rfl) (by simp [elems, appR, hlen, q0, q1, qt, q2, q3, q4, q6, q7, hw5]; exact rfl) ?_ -- region 9
        refine .region X0.sound (by kernel_rfl) (by simp [hw1]; exact rfl) ?_ -- region 8
        refine ⟨_, _, View.norm _ [1, 2, 3, 4, 6] [0, 1, 2, 3, 4] 5 (G1 + 2) (by simp), ?_, j + 1, g, G1 + 1, g4, G1 + 2, rfl, by omega, ?_⟩
        · omega
        · rw [q5]; simp [List.take_take]
      · have hj' : j = (mMoon s).toNat := by
          have : ¬ (j : Int) < mMoon s := by simpa using hc
          omega
        subst hj'
        refine .exit ?_ -- 2
        have hsl := sunsM_len ok
        have hml := moonsM_len ok
        refine .norm (s1 := ⟨[(1, .ptr 0 0 0 0), (2, .ptr 1 1 0 0), (3, .sl 2 g 0 (mSun s).toNat), (4, .sl 3 g3 0 (mMoon s).toNat)], [(0, some (.row 14 [skyC s eh ew] 0 true)), (1, some (.row 3 [[.int .i64 (mSun s), .int .i64 (mMoon s), .sl 4 g4 0 0]] 1 true)), (2, some (.row 1 (ints (sunsM s)) g true)), (3, some (.row 1 (ints (moonsM s)) g3 true)), (4, some (.row 2 [] g4 true))], 5, G1⟩) [1, 2, 3, 4] [0, 1, 2, 3, 4] 5 G1 (by simp) (by simp [moonsM, keepT, keepH]) ?_
        generalize hsu : sunsM s = su at *
        generalize hmu : moonsM s = mu at *
        have bnd : ∀ x ∈ su ++ mu, -255 ≤ x ∧ x ≤ 255 := by
          intro x hx
          rcases List.mem_append.1 hx with hx | hx
          · rw [← hsu] at hx
            have := ok.waves x (List.mem_of_mem_take hx)
            unfold u8 at this; omega
          · rw [← hmu] at hx
            obtain ⟨y, hy, rfl⟩ := List.mem_map.1 hx
            have := ok.waves y (List.mem_of_mem_drop (List.mem_of_mem_take hy))
            unfold u8 at this; omega
        have htr : ∀ h, trueM s h = su.getD (h % mSun s).toNat 0 + mu.getD (h % mMoon s).toNat 0 := fun h => by rw [trueM, hsu, hmu]
        have okb := okEs_bytes s.hours
        refine .step X0.sound (by kernel_rfl) (by simp; exact rfl) ?_ -- region 10
        refine .seq (.step X0.sound (by kernel_rfl) (by simp [p2]; exact rfl) (.block ?_)) -- region 11
        refine .len 53 (es := bytes s.hours) rfl fun hmax => ?_
        simp at hmax
        have hml2 : (maxLen : Int) ≤ 9223372036854775807 := by decide
        refine .loopV (fun k st => ∃ (i g g3 g4 G : Nat) (hr : Int) (dn : List (Int × Int)), k = s.hours.length - i ∧ i ≤ s.hours.length ∧ i ≤ 7 ∧ dn.length ≤ i ∧ 0 ≤ hr ∧ hr ≤ 5 * i ∧ madeR s = dn ++ (hrs i hr (s.hours.drop i)).map (fun h => (h, trueM s h)) ∧
          st = ⟨[(2, .ptr 1 1 0 0), (3, .sl 2 g 0 (mSun s).toNat), (4, .sl 3 g3 0 (mMoon s).toNat), (7, .int .i64 hr), (53, .il (bytes s.hours) eh), (54, .int .i64 s.hours.length), (55, .int .i64 i)], [(1, some (.row 3 [[.int .i64 (mSun s), .int .i64 (mMoon s), .sl 4 g4 0 dn.length]] 1 true)), (2, some (.row 1 (ints su) g true)), (3, some (.row 1 (ints mu) g3 true)), (4, some (.row 2 (pairs dn) g4 true))], 5, G⟩) ?_ (View.norm _ [2, 3, 4, 7, 53, 54, 55] [1, 2, 3, 4] 5 G1 (by simp)) ⟨0, g, g3, g4, G1, 0, [], rfl, Nat.zero_le _, by omega, by simp, by omega, by omega, rfl, rfl⟩
        rintro k st ⟨i, ga, gb, gc, G2, hr, dn, hk2, hi, hi7, hdl, hr0, hr5, hmade, rfl⟩
        have ht1 : List.take (mSun s).toNat (ints su) = ints su := List.take_of_length_le (by simp [hsl])
        have ht2 : List.take (mMoon s).toNat (ints mu) = ints mu := List.take_of_length_le (by simp [hml])
        refine .step X0.sound (by kernel_rfl) (by simp; exact rfl) ?_ -- region 12
        refine .seq ?_
        refine .cond_split (by simp; exact rfl) (fun hc => ?_) (fun hc => ?_) -- t56
        · have hil : i < s.hours.length := by simpa using hc
          obtain ⟨x, hx⟩ : ∃ x, s.hours[i]? = some x := ⟨_, List.getElem?_eq_getElem hil⟩
          have hxe : s.hours[i] = x := by rw [List.getElem?_eq_getElem hil] at hx; simpa using hx
          have hxm := ok.hours _ (List.mem_of_getElem? hx)
          unfold u8 at hxm
          refine .skip (.seq (.block ?_))
          refine .step X0.sound (by kernel_rfl) (by simp [hil, hxe, okb]; exact rfl) ?_ -- region 13
          refine .seq ?_
          by_cases h7 : (7 : Int) ≤ i
          · refine .step X0.sound (by kernel_rfl) (by simp [h7]; exact rfl) ?_ -- region 14
            refine .cond (t := true) (by simp) (.exit ?_)
            have hend : hrs i hr (s.hours.drop i) = [] := by
              rw [List.drop_eq_getElem_cons hil, hrs, if_pos (by omega)]
            have hd : dn = madeR s := by rw [hmade, hend]; simp
            rw [← hd] at fin ⊢
            refine .step X0.sound (by kernel_rfl) (by simp; exact rfl) ?_ -- region 20
            refine .view (View.fzT _ 3 (by simp; exact ⟨rfl, rfl⟩)) ?_
            refine .view (View.fzT _ 4 (by simp; exact ⟨rfl, rfl⟩)) ?_
            exact .ret ⟨.inr rfl, fin _ gc (by simp) (by simp [ht1]) (by simp [ht2]) (by simp) (by simp)⟩
          · refine .step X0.sound (by kernel_rfl) (by simp [h7]; exact rfl) ?_ -- region 14
            refine .cond (t := false) (by simp) (.skip ?_)
            have c7 : IntKind.i64.wrap x = x := wrap64 (by omega) (by omega)
            have c8 : x.tmod 5 = x % 5 := Int.tmod_eq_emod_of_nonneg (by omega)
            have c9 : IntKind.i64.wrap (hr + x % 5) = hr + x % 5 := wrap64 (by omega) (by omega)
            obtain ⟨h1, hh1⟩ : ∃ h1, h1 = if 0 < i ∧ x % 5 = 0 then hr + x % 5 + 1 else hr + x % 5 := ⟨_, rfl⟩
            have hb1 : 0 ≤ h1 ∧ h1 ≤ 5 * (i + 1 : Nat) := by
              rw [hh1]
              split <;> omega
            have hdrop : hrs i hr (s.hours.drop i) = h1 :: hrs (i + 1) h1 (s.hours.drop (i + 1)) := by
              rw [List.drop_eq_getElem_cons hil, hrs, if_neg (by omega)]
              have : s.hours[i] = x := by rw [List.getElem?_eq_getElem hil] at hx; simpa using hx
              rw [this, ← hh1]
            rw [hdrop] at hmade
            refine .step X0.sound (by kernel_rfl) (by simp [c7, c8, c9]; exact rfl) ?_ -- region 15
            refine .cut ⟨[(2, .ptr 1 1 0 0), (3, .sl 2 ga 0 (mSun s).toNat), (4, .sl 3 gb 0 (mMoon s).toNat), (7, .int .i64 h1), (53, .il (bytes s.hours) eh), (54, .int .i64 s.hours.length), (55, .int .i64 i)], [(1, some (.row 3 [[.int .i64 (mSun s), .int .i64 (mMoon s), .sl 4 gc 0 dn.length]] 1 true)), (2, some (.row 1 (ints su) ga true)), (3, some (.row 1 (ints mu) gb true)), (4, some (.row 2 (pairs dn) gc true))], 5, G2⟩ ?_ ?_
            · by_cases hi0 : 0 < i
              · by_cases hg : x % 5 = 0
                · rw [hh1, if_pos ⟨hi0, hg⟩]
                  have c10 : IntKind.i64.wrap (hr + 1) = hr + 1 := wrap64 (by omega) (by omega)
                  refine .step X0.sound (by kernel_rfl) (by simp [hi0, c7, c8, hg]; exact rfl) ?_ -- region 16
                  refine .cond (t := true) (by simp) ?_
                  refine .region X0.sound (by kernel_rfl) (by simp [c10]; exact rfl) ?_ -- region 17
                  exact View.to [2, 3, 4, 7, 53, 54, 55] [1, 2, 3, 4] 5 G2 (by simp) (by simp [hg])
                · rw [hh1, if_neg (fun q => hg q.2)]
                  refine .step X0.sound (by kernel_rfl) (by simp [hi0, c7, c8, hg]; exact rfl) ?_ -- region 16
                  refine .cond (t := false) (by simp [hg]) (.skip ?_)
                  exact View.to [2, 3, 4, 7, 53, 54, 55] [1, 2, 3, 4] 5 G2 (by simp) (by simp)
              · rw [hh1, if_neg (fun q => hi0 q.1)]
                refine .step X0.sound (by kernel_rfl) (by simp [hi0]; exact rfl) ?_ -- region 16
                refine .cond (t := false) (by simp) (.skip ?_)
                exact View.to [2, 3, 4, 7, 53, 54, 55] [1, 2, 3, 4] 5 G2 (by simp) (by simp)
            · have hz1 : mSun s ≠ 0 := by omega
              have hz2 : mMoon s ≠ 0 := by omega
              have t1 : h1.tmod (mSun s) = h1 % mSun s := Int.tmod_eq_emod_of_nonneg hb1.1
              have t2 : h1.tmod (mMoon s) = h1 % mMoon s := Int.tmod_eq_emod_of_nonneg hb1.1
              have a1 := Int.emod_nonneg h1 hz1
              have a2 := Int.emod_nonneg h1 hz2
              have b1 := Int.emod_lt_of_pos h1 (show 0 < mSun s by omega)
              have b2 := Int.emod_lt_of_pos h1 (show 0 < mMoon s by omega)
              have m1 : max (mSun s) 0 = mSun s := by omega
              have m2 : max (mMoon s) 0 = mMoon s := by omega
              obtain ⟨y, hy⟩ : ∃ y, su[(h1 % mSun s).toNat]? = some y := ⟨_, List.getElem?_eq_getElem (by omega)⟩
              obtain ⟨z, hz⟩ : ∃ z, mu[(h1 % mMoon s).toNat]? = some z := ⟨_, List.getElem?_eq_getElem (by omega)⟩
              have hyb := bnd y (List.mem_append_left _ (List.mem_of_getElem? hy))
              have hzb := bnd z (List.mem_append_right _ (List.mem_of_getElem? hz))
              have hyz : trueM s h1 = y + z := by
                rw [htr, List.getD_eq_getElem?_getD, List.getD_eq_getElem?_getD, hy, hz]; rfl
              have c11 : IntKind.i64.wrap (y + z) = y + z := wrap64 (by omega) (by omega)
              have c12 : IntKind.i64.wrap ((i : Int) + 1) = (i : Int) + 1 := wrap64 (by omega) (by omega)
              have q4 : (dn.length + 1) * 16 ≤ room := by simp [room]; omega
              refine .drawn mixed X0.sound (by kernel_rfl) (by kernel_rfl) (runD_tr (by simp [elems, appR, hz1, hz2, t1, t2, a1, a2, b1, b2, m1, m2, hy, hz, c11, q4]; exact ⟨rfl, rfl⟩)) (looseB_spec (by kernel_rfl)) ?_ -- region 18
              refine .region X0.sound (by kernel_rfl) (by simp [c12]; exact rfl) ?_ -- region 19
              refine ⟨_, _, View.norm _ [2, 3, 4, 7, 53, 54, 55] [1, 2, 3, 4] 5 (G2 + 2) (by simp), ?_, i + 1, ga, gb, G2 + 1, G2 + 2, h1, dn ++ [(h1, trueM s h1)], rfl, by omega, by omega, by simp; omega, hb1.1, hb1.2, ?_, ?_⟩
              · omega
              · rw [hmade]; simp
              · rw [hyz]; simp [List.take_of_length_le]
        · have hil : s.hours.length ≤ i := by
            have : ¬ i < s.hours.length := by simpa using hc
            omega
          refine .exit ?_
          have hend : hrs i hr (s.hours.drop i) = [] := by
            rw [List.drop_eq_nil_of_le hil, hrs]
          have hd : dn = madeR s := by rw [hmade, hend]; simp
          rw [← hd] at fin ⊢
          refine .step X0.sound (by kernel_rfl) (by simp; exact rfl) ?_ -- region 20
          refine .view (View.fzT _ 3 (by simp; exact ⟨rfl, rfl⟩)) ?_
          refine .view (View.fzT _ 4 (by simp; exact ⟨rfl, rfl⟩)) ?_
          exact .ret ⟨.inr rfl, fin _ gc (by simp) (by simp [ht1]) (by simp [ht2]) (by simp) (by simp)⟩
  · exact (rd_fail h).elim

end Go.Proofs.Ytlidakhdcnkabaa

namespace Go.Proofs.Ytlidakhdcnkabaa
open Go.AI
set_option linter.unusedSimpArgs false

def addW : List (Int × Int) → List Int → List (Int × Int)
  | [], _ => []
  | x :: l, [] => x :: l
  | x :: l, b :: w => (if b % 4 = 0 then (x.1, x.2 + b / 16) else x) :: addW l w

theorem addW_nil (l : List (Int × Int)) : addW l [] = l := by cases l <;> rfl
theorem addW_len : ∀ (l : List (Int × Int)) (w : List Int), (addW l w).length = l.length
  | [], _ => rfl
  | x :: l, [] => rfl
  | x :: l, b :: w => by simp [addW, addW_len l w]

theorem addW_at : ∀ (l : List (Int × Int)) (w : List Int) (i : Nat) (b : Int), w[i]? = some b → (addW l (w.take i))[i]? = l[i]?
  | [], _, _, _, _ => rfl
  | x :: l, [], _, _, h => by simp at h
  | x :: l, c :: w, 0, _, _ => by simp [addW]
  | x :: l, c :: w, i + 1, b, h => by
    simp only [List.take_succ_cons, addW, List.getElem?_cons_succ]
    exact addW_at l w i b (by simpa using h)

theorem addW_succ : ∀ (l : List (Int × Int)) (w : List Int) (i : Nat) (b : Int), w[i]? = some b → addW l (w.take (i + 1)) = match l[i]? with | some x => (if b % 4 = 0 then (addW l (w.take i)).set i (x.1, x.2 + b / 16) else addW l (w.take i)) | none => addW l (w.take i)
  | [], _, _, _, _ => rfl
  | x :: l, [], _, _, h => by simp at h
  | x :: l, c :: w, 0, b, h => by
    simp only [List.getElem?_cons_zero, Option.some.injEq] at h
    subst h
    simp only [List.take_succ_cons, List.take_zero, addW, addW_nil, List.getElem?_cons_zero, List.set_cons_zero]
    split <;> rfl
  | x :: l, c :: w, i + 1, b, h => by
    have ih := addW_succ l w i b (by simpa using h)
    simp only [List.take_succ_cons, addW, List.getElem?_cons_succ]
    rw [ih]
    cases l[i]? with
    | none => rfl
    | some y =>
      simp only
      by_cases hb : b % 4 = 0 <;> simp [hb]

def wrongR (s : Sky) : List (Int × Int) := addW (madeR s) s.wrong
def wrongT (s : Sky) : Tide := ⟨mSun s, mMoon s, wrongR s⟩

noncomputable def wrongSkyS : FSpec := fun xs nx G => match xs with
  | [r] => ofOpt (asSky r) fun s => valR nx G (tideA (wrongT s) false)
  | _ => .fail

theorem wrongSky_at {s : Sky} (h : s.Ok) (eh ew : Bool) (nx G : Nat) : wrongSkyS [.agg (skyC s eh ew)] nx G = valR nx G (tideA (wrongT s) false) := by
  simp only [wrongSkyS, asSky_at h, ofOpt]

noncomputable def X20 : Ext := .of [(32, madeS)] []
theorem X20.sound : X20.Sound Try.prog := Ext.of_sound ⟨made_sound, trivial⟩
@[simp] theorem X20.raw_ (f : FuncId) : X20.raw f = false := rfl
@[simp] theorem X20.s32 : X20.spec 32 = madeS := rfl

theorem madeR_len (s : Sky) : (madeR s).length ≤ 7 := by
  unfold madeR
  rw [List.length_map]
  exact hrs_len _ _ _

theorem trueM_bnd {s : Sky} (ok : s.Ok) (h : Int) : -255 ≤ trueM s h ∧ trueM s h ≤ 255 := by
  have key : ∀ (l : List Int) (n : Nat) (a b : Int), (∀ x ∈ l, a ≤ x ∧ x ≤ b) → a ≤ 0 → 0 ≤ b → a ≤ l.getD n 0 ∧ l.getD n 0 ≤ b := by
    intro l n a b hl ha hb
    rw [List.getD_eq_getElem?_getD]
    cases hg : l[n]? with
    | none => simp; omega
    | some x => simpa using hl x (List.mem_of_getElem? hg)
  have h1 := key (sunsM s) (h % mSun s).toNat 0 255 (fun x hx => by
    have := ok.waves x (List.mem_of_mem_take hx)
    unfold u8 at this; omega) (by omega) (by omega)
  have h2 := key (moonsM s) (h % mMoon s).toNat (-255) 0 (fun x hx => by
    obtain ⟨y, hy, rfl⟩ := List.mem_map.1 hx
    have := ok.waves y (List.mem_of_mem_drop (List.mem_of_mem_take hy))
    unfold u8 at this; omega) (by omega) (by omega)
  unfold trueM
  omega

theorem wrongSky_sound : FSound Try.prog 28 wrongSkyS := by
  refine fsound_pure Try.func28 (by kernel_rfl) rfl _ fun xs nx G d hp h => ?_
  unfold wrongSkyS at h
  split at h
  · rename_i r
    replace h := rd_opt h; obtain ⟨s, hs, h⟩ := h
    obtain ⟨ok, eh, ew, rfl⟩ := asSky_some hs
    have hd := rd_val h
    subst hd
    refine ⟨by simp [Try.f28], all1 (.agg _ (skyC_free eh ew)), ?_⟩
    have hlen := skyC_len eh ew ok
    have hsc := skyC_sc (s := s) eh ew
    have p13 := skyC_13 eh ew ok
    have htk : List.take 14 (skyC s eh ew) = skyC s eh ew := List.take_of_length_le (by omega)
    have okb := okEs_bytes s.wrong
    have hml := madeR_len s
    refine .step X20.sound (by kernel_rfl) (by simp [hlen, hsc]; exact rfl) ?_ -- region 0
    refine .step X20.sound (by kernel_rfl) (by simp [hlen, htk, fz_sky, made_at ok]; exact rfl) ?_ -- region 1
    refine .seq (.step X20.sound (by kernel_rfl) (by simp [p13]; exact rfl) (.block ?_)) -- region 2
    refine .len 15 (es := bytes s.wrong) rfl fun hmax => ?_
    simp at hmax
    have hml2 : (maxLen : Int) ≤ 9223372036854775807 := by decide
    refine .loopV (fun k st => ∃ (i g : Nat) (G : Nat), k = s.wrong.length - i ∧ i ≤ s.wrong.length ∧ st = ⟨[(2, .ptr 1 1 0 0), (3, .ptr 3 3 0 0), (15, .il (bytes s.wrong) ew), (16, .int .i64 s.wrong.length), (17, .int .i64 i)], [(1, some (.row 3 [[.int .i64 0, .int .i64 0, .il [] true]] 1 true)), (2, some (.row 2 (pairs (addW (madeR s) (s.wrong.take i))) g true)), (3, some (.row 3 [[.int .i64 (mSun s), .int .i64 (mMoon s), .sl 2 g 0 (madeR s).length]] 3 true))], 4, G⟩) ?_ (View.norm _ [2, 3, 15, 16, 17] [1, 2, 3] 4 4 (by simp)) ⟨0, 2, 4, rfl, Nat.zero_le _, by simp [addW_nil]⟩
    rintro k st ⟨i, g, G1, hk, hi, rfl⟩
    refine .step X20.sound (by kernel_rfl) (by simp; exact rfl) ?_ -- region 3
    refine .seq ?_
    refine .cond_split (by simp; exact rfl) (fun hc => ?_) (fun hc => ?_) -- t18
    · have hil : i < s.wrong.length := by simpa using hc
      obtain ⟨b, hb⟩ : ∃ b, s.wrong[i]? = some b := ⟨_, List.getElem?_eq_getElem hil⟩
      have hbe : s.wrong[i] = b := by rw [List.getElem?_eq_getElem hil] at hb; simpa using hb
      have hbm := ok.wrong _ (List.mem_of_getElem? hb)
      unfold u8 at hbm
      have hat := addW_at (madeR s) s.wrong i b hb
      have hsucc := addW_succ (madeR s) s.wrong i b hb
      have hal := addW_len (madeR s) (s.wrong.take i)
      have hw1 : IntKind.i64.wrap ((i : Int) + 1) = (i : Int) + 1 := wrap64 (by omega) (by omega)
      refine .skip (.seq (.block ?_))
      refine .step X20.sound (by kernel_rfl) (by simp [hil, hbe, okb]; exact rfl) ?_ -- region 4
      by_cases hin : i < (madeR s).length
      · obtain ⟨y, hy⟩ : ∃ y, (madeR s)[i]? = some y := ⟨_, List.getElem?_eq_getElem hin⟩
        rw [hy] at hat hsucc
        simp only at hsucc
        have hyb : -255 ≤ y.2 ∧ y.2 ≤ 255 := by
          have := List.mem_of_getElem? hy
          obtain ⟨h, _, rfl⟩ := List.mem_map.1 this
          exact trueM_bnd ok h
        have c1 : b.tmod 4 = b % 4 := Int.tmod_eq_emod_of_nonneg hbm.1
        have c2 : IntKind.i64.wrap b = b := wrap64 (by omega) (by omega)
        have c3 : b.tdiv 16 = b / 16 := Int.tdiv_eq_ediv_of_nonneg hbm.1
        have c4 : IntKind.i64.wrap (b / 16) = b / 16 := wrap64 (by omega) (by omega)
        have c5 : IntKind.i64.wrap (y.2 + b / 16) = y.2 + b / 16 := wrap64 (by omega) (by omega)
        by_cases h4 : b % 4 = 0
        · rw [if_pos h4] at hsucc
          refine .step X20.sound (by kernel_rfl) (by simp [hin, c1, h4]; exact rfl) ?_ -- region 5
          refine .cond (t := true) (by simp) ?_
          refine .region X20.sound (by kernel_rfl) (by simp [hin, hat, c2, c3, c4, c5]; exact rfl) ?_ -- region 6
          refine .region X20.sound (by kernel_rfl) (by simp [hw1]; exact rfl) ?_ -- region 7
          refine ⟨_, _, View.norm _ [2, 3, 15, 16, 17] [1, 2, 3] 4 G1 (by simp), ?_, i + 1, g, G1, rfl, hil, ?_⟩
          · omega
          · rw [hsucc]; simp [List.map_set]
        · rw [if_neg h4] at hsucc
          refine .step X20.sound (by kernel_rfl) (by simp [hin, c1, h4]; exact rfl) ?_ -- region 5
          refine .cond (t := false) (by simp [h4]) (.skip ?_)
          refine .region X20.sound (by kernel_rfl) (by simp [hw1]; exact rfl) ?_ -- region 7
          refine ⟨_, _, View.norm _ [2, 3, 15, 16, 17] [1, 2, 3] 4 G1 (by simp), ?_, i + 1, g, G1, rfl, hil, ?_⟩
          · omega
          · rw [hsucc]; simp
      · rw [List.getElem?_eq_none (by omega)] at hsucc
        simp only at hsucc
        refine .step X20.sound (by kernel_rfl) (by simp [hin]; exact rfl) ?_ -- region 5
        refine .cond (t := false) (by simp) (.skip ?_)
        refine .region X20.sound (by kernel_rfl) (by simp [hw1]; exact rfl) ?_ -- region 7
        refine ⟨_, _, View.norm _ [2, 3, 15, 16, 17] [1, 2, 3] 4 G1 (by simp), ?_, i + 1, g, G1, rfl, hil, ?_⟩
        · omega
        · rw [hsucc]; simp
    · have hil : s.wrong.length ≤ i := by
        have : ¬ i < s.wrong.length := by simpa using hc
        omega
      rw [List.take_of_length_le hil]
      have hal := addW_len (madeR s) s.wrong
      have ht : List.take (madeR s).length (pairs (addW (madeR s) s.wrong)) = pairs (addW (madeR s) s.wrong) := List.take_of_length_le (by simp [hal])
      refine .exit ?_ -- 0
      refine .step X20.sound (by kernel_rfl) (by simp; exact rfl) ?_ -- region 8
      refine .view (View.fzCell _ 1 1 3 2 g 2 2 0 (madeR s).length true true [.int .i64 (mSun s), .int .i64 (mMoon s), .sl 2 g 0 (madeR s).length] (pairs (addW (madeR s) s.wrong)) (by simp) rfl (by simp) (by simp)) ?_
      exact .ret ⟨.inr rfl, ends_free (l := [.cell 2 24]) rfl (rs := [tideA (wrongT s) false]) (by simp [ht, wrongT, wrongR]) (fun k => by simp) (all1 (free_tide _ _))⟩
  · exact (rd_fail h).elim

end Go.Proofs.Ytlidakhdcnkabaa
