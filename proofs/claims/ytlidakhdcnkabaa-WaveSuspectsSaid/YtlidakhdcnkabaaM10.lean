/- Types; first contracts. Ends of a reading. The nodes, as they are ranged over. The way back along a solution's edges. No condition. -/
import Derived.Test.YtlidakhdcnkabaaM06
import Derived.Test.YtlidakhdcnkabaaChecked
import Derived.Test.YtlidakhdcnkabaaM07
namespace Go.Proofs.Ytlidakhdcnkabaa
open Go.AI

@[simp] theorem ti3 : tiOf Try.prog 3 = some ⟨1, false, .int .i64 0, 8, .int .i64⟩ := by kernel_rfl
@[simp] theorem ti4 : tiOf Try.prog 4 = some ⟨1, false, .bool false, 1, .bool⟩ := by kernel_rfl
@[simp] theorem ti30 : tiOf Try.prog 30 = some ⟨1, false, .il [] true, 24, .slice 3⟩ := by kernel_rfl
theorem mixed : Try.prog.follows .mixedOrders = true := by kernel_rfl

def asInt : List AVal → Option Int
  | [.int .i64 x] => some x
  | _ => none

def asInts (es : List (List AVal)) : Option (List Int) := es.mapM asInt

abbrev ints (xs : List Int) : List (List AVal) := xs.map fun x => [.int .i64 x]

theorem asInts_some {es : List (List AVal)} {xs : List Int} (h : asInts es = some xs) : es = ints xs := by
  induction es generalizing xs with
  | nil => simp [asInts] at h; subst h; rfl
  | cons e es ih =>
    simp only [asInts, List.mapM_cons, Option.bind_eq_bind, Option.bind_eq_some_iff, Option.pure_def, Option.some.injEq] at h
    obtain ⟨x, hx, ys, hys, rfl⟩ := h
    rw [ih hys]
    unfold asInt at hx
    split at hx
    · cases hx; rfl
    · cases hx

@[simp] theorem asInts_ints (xs : List Int) : asInts (xs.map fun x => [.int .i64 x]) = some xs := by
  induction xs with
  | nil => rfl
  | cons x xs ih =>
    simp only [asInts, List.map_cons, List.mapM_cons] at ih ⊢
    rw [ih]; rfl

def numbersS : FSpec := fun xs nx G => match xs with
  | [.il a _, .il b _] => ofOpt (asInts a) fun xs => ofOpt (asInts b) fun ys => valR nx G (.bool (xs == ys))
  | _ => .fail

def X0 : Ext := .of [] []
theorem X0.sound : X0.Sound Try.prog := Ext.of_sound trivial

theorem numbers_sound : FSound Try.prog 18 numbersS := by
  refine fsound_pure Try.func18 (by kernel_rfl) rfl _ fun xs nx G d hp h => ?_
  unfold numbersS at h
  split at h
  · rename_i a ea b eb
    replace h := rd_opt h; obtain ⟨xs, hxs, h⟩ := h
    replace h := rd_opt h; obtain ⟨ys, hys, h⟩ := h
    have hd := rd_val h
    subst hd
    have := asInts_some hxs; subst this
    have := asInts_some hys; subst this
    refine ⟨by simp [Try.f18], by simp, ?_⟩
    refine .len 0 (es := ints xs) (ex := ea) (by simp) fun hlx => ?_
    have hb : xs.length < 9223372036854775808 := by simp [maxLen] at hlx; omega
    refine .step X0.sound (by kernel_rfl) (by simp; exact rfl) ?_
    refine .seq (.step X0.sound (by kernel_rfl) (by simp; exact rfl) ?_)
    refine .cond_split (by simp; exact rfl) (fun hc => ?_) (fun hc => ?_)
    · refine .step X0.sound (by kernel_rfl) (by simp; exact rfl) (.ret ⟨.inr rfl, _, _, _, _, _, _, rfl, rfl, .keep (by simp) (.nil _ _), .nil, ?_⟩)
      have hne : xs ≠ ys := by intro he; subst he; simp at hc
      simp [hne]
    have hl : xs.length = ys.length := by simp at hc; omega
    refine .skip (.seq (.step X0.sound (by kernel_rfl) (by simp; exact rfl) (.block ?_)))
    refine .loopV (fun m s => ∃ i : Nat, i ≤ xs.length ∧ m = xs.length - i ∧ xs.take i = ys.take i ∧ s = ⟨[(0, .il (ints xs) ea), (1, .il (ints ys) eb), (5, .int .i64 i)], [], 0, 0⟩) ?_ (View.norm _ [0, 1, 5] [] 0 0 (by simp)) ⟨0, by omega, rfl, by simp, by simp⟩
    rintro m s ⟨i, hi, rfl, htake, rfl⟩
    refine .seq (.step X0.sound (by kernel_rfl) (by simp; exact rfl) ?_)
    refine .cond_split (by simp; exact rfl) (fun hc => ?_) (fun hc => ?_)
    · have hi' : i < xs.length := by simpa using hc
      have hi2 : i < ys.length := by omega
      refine .skip (.seq (.block (.draw mixed X0.sound (by kernel_rfl) (by kernel_rfl) rfl (by simp [hi', hi2]; exact ⟨rfl, rfl⟩) (looseB_spec (by kernel_rfl)) ?_)))
      refine .cond_split (by simp; exact rfl) (fun hc => ?_) (fun hc => ?_)
      · refine .step X0.sound (by kernel_rfl) (by simp; exact rfl) (.ret ⟨.inr rfl, _, _, _, _, _, _, rfl, rfl, .keep (by simp) (.nil _ _), .nil, ?_⟩)
        have hne : xs ≠ ys := by intro he; subst he; simp at hc
        simp [hne]
      · have hxy : xs[i] = ys[i] := by simpa using hc
        refine .skip (.region X0.sound (by kernel_rfl) (by simp; exact rfl) ⟨_, _, View.norm _ [0, 1, 5] [] 0 0 (by simp), ?_, i + 1, by omega, rfl, ?_, ?_⟩)
        · omega
        · rw [List.take_add_one, List.take_add_one, htake]; simp [hi', hi2, hxy]
        · simp; exact wrap64 (by omega) (by omega)
    · have : i = xs.length := by simp at hc; omega
      subst this
      have heq : xs = ys := by rw [List.take_length, hl, List.take_length] at htake; exact htake
      refine .exit ?_
      refine .step X0.sound (by kernel_rfl) (by simp; exact rfl) (.ret ⟨.inr rfl, _, _, _, _, _, _, rfl, rfl, .keep (by simp) (.nil _ _), .nil, ?_⟩)
      simp [heq]
  · exact (rd_fail h).elim

end Go.Proofs.Ytlidakhdcnkabaa

namespace Go.Proofs.Ytlidakhdcnkabaa
open Go.AI

@[simp] theorem ti24 : tiOf Try.prog 24 = some ⟨3, true, .agg [.int .i64 0, .int .i64 0, .il [] true], 40, .strct [(0, 3, false), (1, 3, false), (2, 22, false)]⟩ := by kernel_rfl
@[simp] theorem ti22 : tiOf Try.prog 22 = some ⟨1, false, .il [] true, 24, .slice 55⟩ := by kernel_rfl
@[simp] theorem ti55 : tiOf Try.prog 55 = some ⟨2, true, .agg [.int .i64 0, .int .i64 0], 16, .strct [(0, 3, false), (1, 3, false)]⟩ := by kernel_rfl
@[simp] theorem ti82 : tiOf Try.prog 82 = some ⟨2, true, .agg [.int .i64 0, .int .i64 0], 16, .strct [(0, 3, false), (1, 3, false)]⟩ := by kernel_rfl

def asPair : List AVal → Option (Int × Int)
  | [.int .i64 x, .int .i64 y] => some (x, y)
  | _ => none

abbrev pairs (xs : List (Int × Int)) : List (List AVal) := xs.map fun x => [.int .i64 x.1, .int .i64 x.2]

def asPairs (es : List (List AVal)) : Option (List (Int × Int)) := es.mapM asPair

theorem asPairs_some {es : List (List AVal)} {xs : List (Int × Int)} (h : asPairs es = some xs) : es = pairs xs := by
  induction es generalizing xs with
  | nil => simp [asPairs] at h; subst h; rfl
  | cons e es ih =>
    simp only [asPairs, List.mapM_cons, Option.bind_eq_bind, Option.bind_eq_some_iff, Option.pure_def, Option.some.injEq] at h
    obtain ⟨x, hx, ys, hys, rfl⟩ := h
    rw [ih hys]
    unfold asPair at hx
    split at hx
    · cases hx; rfl
    · cases hx

@[simp] theorem asPairs_pairs (xs : List (Int × Int)) : asPairs (xs.map fun x => [.int .i64 x.1, .int .i64 x.2]) = some xs := by
  induction xs with
  | nil => rfl
  | cons x xs ih =>
    simp only [asPairs, List.map_cons, List.mapM_cons] at ih ⊢
    rw [ih]; rfl

/-- A record of the tide: hours of the sun's wave, of the moon's, readings (hour, height). -/
structure Tide where
  sun : Int
  moon : Int
  rs : List (Int × Int)

def asTide : AVal → Option Tide
  | .agg [.int .i64 s, .int .i64 m, .il es _] => (asPairs es).map fun rs => ⟨s, m, rs⟩
  | _ => none

abbrev tideA (t : Tide) (ex : Bool) : AVal := .agg [.int .i64 t.sun, .int .i64 t.moon, .il (t.rs.map fun x => [.int .i64 x.1, .int .i64 x.2]) ex]

@[simp] theorem asTide_tide (s m : Int) (rs : List (Int × Int)) (ex : Bool) : asTide (.agg [.int .i64 s, .int .i64 m, .il (rs.map fun x => [.int .i64 x.1, .int .i64 x.2]) ex]) = some ⟨s, m, rs⟩ := by
  simp [asTide]

theorem asTide_some {v : AVal} {t : Tide} (h : asTide v = some t) : ∃ ex, v = tideA t ex := by
  unfold asTide at h
  split at h
  · rename_i s m es ex
    simp only [Option.map_eq_some_iff] at h
    obtain ⟨rs, hrs, rfl⟩ := h
    exact ⟨ex, by rw [asPairs_some hrs]⟩
  · cases h

theorem free_rows {α : Type} (l : List α) (f : α → List AVal) (h : ∀ x, ∀ a ∈ f x, Free a) : ∀ e ∈ l.map f, ∀ a ∈ e, Free a := by
  intro e he a ha
  obtain ⟨x, _, rfl⟩ := List.mem_map.1 he
  exact h x a ha

theorem free_tide (t : Tide) (ex : Bool) : Free (tideA t ex) := by
  refine .agg _ fun a ha => ?_
  simp only [List.mem_cons, List.not_mem_nil, or_false] at ha
  rcases ha with rfl | rfl | rfl
  · exact .int _ _
  · exact .int _ _
  · exact .il _ _ (free_rows _ _ fun x a ha => by simp at ha; rcases ha with rfl | rfl <;> exact .int _ _)

def nodeA (b i : Int) : AVal := .agg [.int .i64 b, .int .i64 i]

def endsS : FSpec := fun xs nx G => match xs with
  | [r, .int .i64 h] => ofOpt (asTide r) fun t => if t.sun = 0 ∨ t.moon = 0 then .fail else valR nx G (.tup [.agg [.int .i64 0, .int .i64 (h.tmod t.sun)], .agg [.int .i64 1, .int .i64 (h.tmod t.moon)]])
  | _ => .fail

theorem ends_sound : FSound Try.prog 52 endsS := by
  refine fsound_pure Try.func52 (by kernel_rfl) rfl _ fun xs nx G d hp h => ?_
  unfold endsS at h
  split at h
  · rename_i r k
    replace h := rd_opt h; obtain ⟨t, ht, h⟩ := h
    obtain ⟨ex, rfl⟩ := asTide_some ht
    split at h
    · exact (rd_fail h).elim
    · rename_i hsm
      have hd := rd_val h
      subst hd
      have hs : t.sun ≠ 0 := fun e => hsm (.inl e)
      have hm : t.moon ≠ 0 := fun e => hsm (.inr e)
      refine ⟨by simp [Try.f52], by intro a ha; simp only [List.mem_cons, List.not_mem_nil, or_false] at ha; rcases ha with rfl | rfl; exact free_tide t ex; exact .int _ _, ?_⟩
      refine .step X0.sound (by kernel_rfl) (by simp; exact rfl) ?_
      refine .draw mixed X0.sound (by kernel_rfl) (by kernel_rfl) rfl (by simp [hs, hm]; exact ⟨rfl, rfl⟩) (looseB_spec (by kernel_rfl)) ?_
      exact .ret ⟨.inr rfl, ends_free (rs := [.agg [.int .i64 0, .int .i64 (k.tmod t.sun)], .agg [.int .i64 1, .int .i64 (k.tmod t.moon)]]) (l := [.cell 4 82, .cell 5 82]) rfl (by simp) (fun k => by simp) (by simp)⟩
  · exact (rd_fail h).elim

end Go.Proofs.Ytlidakhdcnkabaa

namespace Go.Proofs.Ytlidakhdcnkabaa
open Go.AI
set_option linter.unusedSimpArgs false

abbrev nodesOf (s m : Nat) : List AVal := (List.range s).map (fun i => .agg [.int .i64 0, .int .i64 i]) ++ (List.range m).map fun i => .agg [.int .i64 1, .int .i64 i]

theorem nodes_get0 {s m i : Nat} (h : i < s) : (nodesOf s m)[i]? = some (.agg [.int .i64 0, .int .i64 i]) := by
  rw [List.getElem?_append_left (by simpa using h)]; simp [h]
theorem nodes_get1 {s m i : Nat} (h : i < m) : (nodesOf s m)[s + i]? = some (.agg [.int .i64 1, .int .i64 i]) := by
  rw [List.getElem?_append_right (by simp)]; simp [h]

theorem still_node (b i : Int) : Still (.agg [.int .i64 b, .int .i64 i]) := still_ints _ fun a ha => by
  simp only [List.mem_cons, List.not_mem_nil, or_false] at ha
  rcases ha with rfl | rfl <;> exact still_int _ _

theorem nodes_iter (s m : Nat) (rd : AVal) (hp : Nat → Option AObj) (hs : s < 9223372036854775807) (hm : m < 9223372036854775807) :
    Iter Try.prog 57 [.pim [.int .i64 s, .int .i64 m, rd] 0] [] hp (nodesOf s m) := by
  intro l n C capv J _ _ hcap hJq hJk hJy h0
  obtain ⟨pv, rfl⟩ : ∃ pv, capv = #[pv] := by
    have h1 : capv.size = 1 := by simpa using hcap.1.symm
    refine ⟨capv[0], Array.ext (by simpa using h1) fun i h2 h3 => ?_⟩
    have : i = 0 := by omega
    subst this
    rfl
  have hpv : VRep C (.pim [.int .i64 s, .int .i64 m, rd] 0) pv := hcap.2 0 _ _ rfl rfl
  have look : ∀ i w, J i w → VRep (Cfg.open w) (.pim [.int .i64 s, .int .i64 m, .undef] 0) pv := by
    intro i w hj
    obtain ⟨C', rfl, _, g', _⟩ := hJk i w hj
    have hp' := g'.rep hpv
    generalize hcs : ([.int .i64 s, .int .i64 m, rd] : List AVal) = cs at hp'
    cases hp' with
    | pim _ _ B o vs hvs hc =>
      subst hcs
      refine .pim _ 0 B o vs (fun j a hj => ?_) fun j a hj => ⟨?_, fun h => h.elim, fun _ _ _ h => (by cases h)⟩
      · rcases j with _ | _ | _ | j
        · simp only [List.getElem?_cons_zero, Option.some.injEq] at hj
          subst hj
          exact still_int _ _ _ _ _ (hvs 0 _ rfl)
        · simp only [Nat.zero_add, List.getElem?_cons_succ, List.getElem?_cons_zero, Option.some.injEq] at hj
          subst hj
          exact still_int _ _ _ _ _ (hvs 1 _ rfl)
        · simp at hj
          subst hj
          exact .undef _
        · simp at hj
      · rcases j with _ | _ | _ | j
        · exact (hc 0 _ rfl).1
        · exact (hc 1 _ rfl).1
        · exact (hc 2 _ rfl).1
        · simp at hj
  have hre : ∀ (j : Nat) (x y : Nat) (n1 n2 : Int) (tsx : List (Nat × AVal)), tget tsx 0 = .fn (.yield l) [] [] → tget tsx x = .int .i64 n1 → tget tsx y = .int .i64 n2 → ∀ (a : Act) (w w' : World), J j w' → a.tmps.getD 1 undef = pv → (∀ t, VRep (Cfg.open w) (tget tsx t) (a.tmps.getD t undef)) →
      ∀ t, VRep (Cfg.open w') (tget [(0, .fn (.yield l) [] []), (1, .pim [.int .i64 s, .int .i64 m, .undef] 0), (x, .int .i64 n1), (y, .int .i64 n2)] t) (a.tmps.getD t undef) := by
    intro j x y n1 n2 tsx h1 h2 h3 a w w' hj hfix hv t
    simp only [tget]
    split
    · rename_i h; rw [← h]; exact still_yield l _ _ _ (h1 ▸ hv 0)
    split
    · rename_i h; rw [← h, hfix]; exact look j w' hj
    split
    · rename_i h; rw [← h]; exact still_int _ _ _ _ _ (h2 ▸ hv x)
    split
    · rename_i h; rw [← h]; exact still_int _ _ _ _ _ (h3 ▸ hv y)
    · exact .undef _
  rw [← callsIn_wide (n := 0)]
  refine callsIn_of_wp Try.func57 rfl trivial ?_
  refine wpIn_mono (ExecY.go (J := J) (N := Try.f57.ntmps) (tf := 1) (vf := pv) (st := (⟨[(0, .fn (.yield l) [] []), (1, .pim [.int .i64 s, .int .i64 m, .undef] 0)], [], 0, 0⟩, 0)) (Q := fun e st => (e = .normal ∨ e = .ret) ∧ st.2 = s + m) ?_ 0 _ C.w ?_) fun e a' w' hh => ?_
  · refine .seq (.seq (.region hJq X0.sound (by kernel_rfl) (by kernel_rfl) (by simp; exact rfl) rfl rfl ?_))
    refine .block (.loop (fun k st => ∃ i : Nat, i ≤ s ∧ k = s - i ∧ ∃ ts, st = (⟨ts, [], 0, 0⟩, i) ∧ tget ts 0 = .fn (.yield l) [] [] ∧ tget ts 1 = .pim [.int .i64 s, .int .i64 m, .undef] 0 ∧ tget ts 6 = .int .i64 s ∧ tget ts 7 = .int .i64 i) ?_ (m := s) ⟨0, by omega, rfl, _, rfl, by simp, by simp, by simp, by simp⟩)
    rintro k st ⟨i, hi, rfl, ts, rfl, t0, t1, t6, t7⟩
    refine .seq (.region hJq X0.sound (by kernel_rfl) (by kernel_rfl) (by simp [t0, t1, t6, t7]; exact rfl) rfl rfl ?_)
    refine .seq (.cond_split (by simp; exact rfl) (fun hc => ?_) (fun hc => ?_))
    · have hi' : i < s := by simpa using hc
      refine .skip (.seq (.block (.seq (.region hJq X0.sound (by kernel_rfl) (by kernel_rfl) (by simp [t0, t1, t6, t7]; exact rfl) rfl rfl ?_))))
      refine .seq (.yield hJq X0.sound hJy 3 (by kernel_rfl) (by kernel_rfl) (by simp [t0, t1, t6, t7]; exact rfl) rfl rfl rfl rfl rfl rfl rfl rfl (by simp) (by simp) (nodes_get0 hi') (still_node _ _)
        (hre (i + 1) 6 7 s i _ (by simp [t0]) (by simp [t6]) (by simp [t7])) (s2 := ⟨_, [], 0, 0⟩) (by simp; exact rfl) rfl rfl ?_)
      refine .cond_split (by simp; exact rfl) (fun hc => by cases hc) (fun _ => ?_)
      refine .skip (.region hJq X0.sound (by kernel_rfl) (by kernel_rfl) (by simp; exact rfl) rfl rfl ?_)
      refine ⟨s - (i + 1), by omega, i + 1, by omega, rfl, _, rfl, by simp, by simp, by simp, ?_⟩
      simp; exact wrap64 (by omega) (by omega)
    · have : i = s := by simp at hc; omega
      subst this
      refine .exit ?_
      refine .seq (.region hJq X0.sound (by kernel_rfl) (by kernel_rfl) (by simp [t0, t1, t6, t7]; exact rfl) rfl rfl ?_)
      refine .block (.loop (fun k st => ∃ j : Nat, j ≤ m ∧ k = m - j ∧ ∃ ts, st = (⟨ts, [], 0, 0⟩, i + j) ∧ tget ts 0 = .fn (.yield l) [] [] ∧ tget ts 1 = .pim [.int .i64 i, .int .i64 m, .undef] 0 ∧ tget ts 17 = .int .i64 m ∧ tget ts 18 = .int .i64 j) ?_ (m := m) ⟨0, by omega, rfl, _, rfl, by simp [t0], by simp [t1], by simp, by simp⟩)
      rintro k st ⟨j, hj, rfl, ts, rfl, t0, t1, t6, t7⟩
      refine .seq (.region hJq X0.sound (by kernel_rfl) (by kernel_rfl) (by simp [t0, t1, t6, t7]; exact rfl) rfl rfl ?_)
      refine .seq (.cond_split (by simp; exact rfl) (fun hc => ?_) (fun hc => ?_))
      · have hj' : j < m := by simpa using hc
        refine .skip (.seq (.block (.seq (.region hJq X0.sound (by kernel_rfl) (by kernel_rfl) (by simp [t0, t1, t6, t7]; exact rfl) rfl rfl ?_))))
        refine .seq (.yield hJq X0.sound hJy 3 (by kernel_rfl) (by kernel_rfl) (by simp [t0, t1, t6, t7]; exact rfl) rfl rfl rfl rfl rfl rfl rfl rfl (by simp) (by simp) (nodes_get1 hj') (still_node _ _)
          (hre (i + j + 1) 17 18 m j _ (by simp [t0]) (by simp [t6]) (by simp [t7])) (s2 := ⟨_, [], 0, 0⟩) (by simp; exact rfl) rfl rfl ?_)
        refine .cond_split (by simp; exact rfl) (fun hc => by cases hc) (fun _ => ?_)
        refine .skip (.region hJq X0.sound (by kernel_rfl) (by kernel_rfl) (by simp; exact rfl) rfl rfl ?_)
        refine ⟨m - (j + 1), by omega, j + 1, by omega, rfl, _, rfl, by simp, by simp, by simp, ?_⟩
        simp; exact wrap64 (by omega) (by omega)
      · have : j = m := by simp at hc; omega
        subst this
        exact .exit ⟨.inl rfl, rfl⟩
  · generalize hk : Array.replicate (Try.f57.ntmps - (#[Value.func (.yield l) #[] #[]] ++ #[pv]).size) undef = rest
    have hsz : rest.size = 25 := by rw [← hk]; simp [Try.f57]
    have hT : #[Value.func (.yield l) #[] #[]] ++ #[pv] ++ rest = (#[Value.func (.yield l) #[] #[], pv] ++ rest) := rfl
    rw [hT]
    have e0 : (#[Value.func (.yield l) #[] #[], pv] ++ rest).getD 0 undef = .func (.yield l) #[] #[] := by
      rw [Array.getD_eq_getD_getElem?, Array.getElem?_append_left (by simp)]; rfl
    have e1 : (#[Value.func (.yield l) #[] #[], pv] ++ rest).getD 1 undef = pv := by
      rw [Array.getD_eq_getD_getElem?, Array.getElem?_append_left (by simp)]; rfl
    refine ⟨h0, ⟨open_valid _, rfl, fun t => ?_, by simp [Try.f57, hsz], .nil _, fun _ h => h.elim⟩, rfl, rfl, rfl, e1⟩
    rcases t with _ | _ | t
    · show VRep _ (.fn (.yield l) [] []) ((#[Value.func (.yield l) #[] #[], pv] ++ rest).getD 0 undef)
      rw [e0]
      exact .fn _ _ _ _ _ rfl rfl (by simp) (by simp)
    · show VRep _ (.pim [.int .i64 s, .int .i64 m, .undef] 0) ((#[Value.func (.yield l) #[] #[], pv] ++ rest).getD 1 undef)
      rw [e1]
      exact look 0 C.w h0
    · simp only [tget]
      rw [if_neg (by omega), if_neg (by omega)]
      exact .undef _
  · obtain ⟨st', r, he, hst⟩ := hh
    obtain ⟨vs, _, hres⟩ := results_run (fn := Try.f57) r.rel (rs := []) (by rw [show Try.f57.results = #[] from rfl]; rfl)
    have hj : J (nodesOf s m).length w' := by
      have : (nodesOf s m).length = s + m := by simp
      rw [this, ← hst]; exact r.j
    rcases he with rfl | rfl
    · exact ⟨r.defers, _, hres, ⟨_, rfl⟩, hj⟩
    · exact ⟨r.defers, _, hres, ⟨_, rfl⟩, hj⟩

end Go.Proofs.Ytlidakhdcnkabaa

namespace Go.Proofs.Ytlidakhdcnkabaa
open Go.AI

@[simp] theorem ti84 : tiOf Try.prog 84 = some ⟨6, true, .agg [.int .i64 0, .int .i64 0, .int .i64 0, .int .i64 0, .int .i64 0, .int .i64 0], 48, .strct [(0, 82, false), (2, 3, false), (3, 3, false), (4, 82, false)]⟩ := by kernel_rfl
@[simp] theorem ti75 : tiOf Try.prog 75 = some ⟨1, false, .im [], 8, .map 82 84⟩ := by kernel_rfl

structure Edge where
  root : Int × Int
  w : Int
  r : Int
  from_ : Int × Int

abbrev edgeA (e : Edge) : AVal := .agg [.int .i64 e.root.1, .int .i64 e.root.2, .int .i64 e.w, .int .i64 e.r, .int .i64 e.from_.1, .int .i64 e.from_.2]
abbrev nodA (n : Int × Int) : AVal := .agg [.int .i64 n.1, .int .i64 n.2]
theorem node_key (n : Int × Int) : keyT Try.prog eqD 82 (nodA n) = true := by simp [eqD, keyT, keyFs]
theorem node_eq (a b : Int × Int) : eqT Try.prog eqD 82 (nodA a) (nodA b) = some (decide (a = b)) := by
  obtain ⟨a1, a2⟩ := a
  obtain ⟨b1, b2⟩ := b
  have e1 : (a1 == b1) = decide (a1 = b1) := rfl
  have e2 : (a2 == b2) = decide (a2 = b2) := rfl
  by_cases h1 : a1 = b1 <;> by_cases h2 : a2 = b2 <;> simp [eqD, eqT, eqFs, e1, e2, h1, h2]
theorem node_same (a : Int × Int) : sameA (nodA a) (nodA a) = true := by simp [sameA, sameCs]


def asSolP : AVal × AVal → Option ((Int × Int) × Edge)
  | (.agg [.int .i64 a, .int .i64 b], .agg [.int .i64 c, .int .i64 d, .int .i64 w, .int .i64 r, .int .i64 e, .int .i64 f]) => some ((a, b), ⟨(c, d), w, r, (e, f)⟩)
  | _ => none

def asSol (es : List (AVal × AVal)) : Option (List ((Int × Int) × Edge)) := es.mapM asSolP

theorem asSol_some {es : List (AVal × AVal)} {s : List ((Int × Int) × Edge)} (h : asSol es = some s) : es = kvs nodA edgeA s := by
  induction es generalizing s with
  | nil => simp [asSol] at h; subst h; rfl
  | cons e es ih =>
    simp only [asSol, List.mapM_cons, Option.bind_eq_bind, Option.bind_eq_some_iff, Option.pure_def, Option.some.injEq] at h
    obtain ⟨x, hx, ys, hys, rfl⟩ := h
    rw [ih hys]
    unfold asSolP at hx
    split at hx
    · cases hx; rfl
    · cases hx

def zeroE : Edge := ⟨(0, 0), 0, 0, (0, 0)⟩

def wayL (s : List ((Int × Int) × Edge)) : Nat → Int × Int → Option (List Int)
  | 0, _ => none
  | f + 1, n => if 0 ≤ ((getK n s).getD zeroE).r then (wayL s f ((getK n s).getD zeroE).from_).map (((getK n s).getD zeroE).r :: ·) else some []

def wayS : FSpec := fun xs nx G => match xs with
  | [.im es, .agg [.int .i64 b, .int .i64 i]] => ofOpt (asSol es) fun s => ofOpt (wayL s 200 (b, i)) fun l => .ret ⟨.sl nx G 0 l.length, [(nx, some (.row 1 (ints l) G true))], nx + 1, G + 1⟩
  | _ => .fail

theorem free_sol (s : List ((Int × Int) × Edge)) : Free (.im (kvs nodA edgeA s)) := by
  refine .im _ (fun e he => ?_) (fun e he => ?_) <;> obtain ⟨x, _, rfl⟩ := List.mem_map.1 he <;> refine .agg _ fun a ha => ?_ <;> simp at ha
  · rcases ha with rfl | rfl <;> exact .int _ _
  · rcases ha with rfl | rfl | rfl | rfl | rfl | rfl <;> exact .int _ _

theorem look_way (nx G : Nat) (s : List ((Int × Int) × Edge)) (n : Int × Int) : lookupR Try.prog nx G 75 (.im (kvs nodA edgeA s)) (.agg [.int .i64 n.1, .int .i64 n.2]) false = valR nx G (edgeA ((getK n s).getD zeroE)) := by
  unfold lookupR
  have h1 := node_key n
  have h2 := findA_kvs (ke := nodA) (ve := edgeA) node_eq n s
  simp only [nodA] at h1 h2
  simp only [ofOpt, ti75, ti84, h1, h2]
  cases getK n s <;> rfl

theorem way_sound : FSound Try.prog 53 wayS := by
  refine fsound_pure Try.func53 (by kernel_rfl) rfl _ fun xs nx G d hp h => ?_
  unfold wayS at h
  split at h
  · rename_i es b i
    replace h := rd_opt h; obtain ⟨s, hs, h⟩ := h
    replace h := rd_opt h; obtain ⟨l, hl, h⟩ := h
    have := asSol_some hs; subst this
    simp only [Rd.run, Option.some.injEq] at h
    subst h
    refine ⟨by simp [Try.f53], by intro a ha; simp only [List.mem_cons, List.not_mem_nil, or_false] at ha; rcases ha with rfl | rfl; exact free_sol s; simp, ?_⟩
    refine .step X0.sound (by kernel_rfl) (by simp; exact rfl) ?_
    refine .step X0.sound (by kernel_rfl) (by simp; exact rfl) (.view (View.virt _ 5 1 1 true (by simp)) (.seq (.block ?_)))
    refine .loopV (fun k st => ∃ n acc rest g G, wayL s k n = some rest ∧ l = acc ++ rest ∧ acc.length + k ≤ 200 ∧ st = ⟨[(0, .im (kvs nodA edgeA s)), (3, .ptr 0 0 0 0), (5, .sl 1 g 0 acc.length)], [(0, some (.row 2 [[.int .i64 n.1, .int .i64 n.2]] 0 true)), (1, some (.row 1 (ints acc) g true))], 2, G⟩) ?_ (View.norm _ [0, 3, 5] [0, 1] 2 2 (by simp)) ⟨(b, i), [], l, 1, 2, hl, rfl, by simp, by simp⟩
    rintro k st ⟨n, acc, rest, g, G1, hw, rfl, hlen, rfl⟩
    refine .seq (.step X0.sound (by kernel_rfl) (by simp [-lookupR, look_way]; exact rfl) ?_)
    refine .cond_split (by simp; exact rfl) (fun hc => ?_) (fun hc => ?_)
    · have hr : 0 ≤ ((getK n s).getD zeroE).r := by simpa using hc
      cases k with
      | zero => simp [wayL] at hw
      | succ k =>
        simp only [wayL, hr, if_true, Option.map_eq_some_iff] at hw
        obtain ⟨rest', hw, rfl⟩ := hw
        have hroom : (acc.length + 1) * 8 ≤ room := by simp [room]; omega
        refine .skip (.block (.step X0.sound (by kernel_rfl) (by simp [-lookupR, look_way, elems, appR, hroom]; exact rfl) ?_))
        refine .region X0.sound (by kernel_rfl) (by simp [-lookupR, look_way]; exact rfl) ⟨_, _, View.norm _ [0, 3, 5] [0, 1] 2 (G1 + 2) (by simp), by omega, ((getK n s).getD zeroE).from_, acc ++ [((getK n s).getD zeroE).r], rest', G1 + 1, G1 + 2, hw, by simp, by simp; omega, ?_⟩
        simp
        rw [List.take_of_length_le (by simp)]
    · have hr : ¬ 0 ≤ ((getK n s).getD zeroE).r := by simpa using hc
      have hrest : rest = [] := by
        cases k with
        | zero => simp [wayL] at hw
        | succ k => simp [wayL, hr] at hw; exact hw
      subst hrest
      refine .exit ?_
      refine .step X0.sound (by kernel_rfl) (by simp; exact rfl) ?_
      refine .ret ⟨.inr rfl, ?_⟩
      refine ⟨[.sl 1 g 0 acc.length], [.sl 1 g 0 acc.length], [], [.sl nx G 0 acc.length], [(nx, some (.row 1 (ints acc) G true))], [1], ?_, ?_, .row (b := 1) (by simp [hupd]) ?_ (.nil _ _), by simp, ?_⟩
      · rw [show Try.f53.results.toList = [.tmp 4] from rfl]; simp
      · simp
      · exact free_rows _ _ fun x a ha => by simp at ha; subst ha; exact .int _ _
      · simp
  · exact (rd_fail h).elim

end Go.Proofs.Ytlidakhdcnkabaa
