/- Slices and maps that are handed to a call are frozen; a call is simulated where the callee's contract is. A region that is run in text order. A region that draws its order: where unordered operations keep apart, any order does what the text's order does. A region that draws its order, walked. No condition. -/
import Derived.Test.YtlidakhdcnkabaaM03
import Derived.OrdersIn
import Derived.TacticsIn
namespace Go.AI
variable {P : Program} {C : Cfg}

/-- What freezing does to one block. -/
def FzOk (C : Cfg) (e : Upd) : Prop :=
  (∃ sz es g wr, e.2 = some (.row sz es g false) ∧ C.h e.1 = some (.row sz es g wr)) ∨ (e.2 = none ∧ (C.h e.1 = none ∨ ∃ es g v, C.h e.1 = some (.map es g v)))

theorem FzOk.det {e e' : Upd} (h : FzOk C e) (h' : FzOk C e') (hb : e.1 = e'.1) : e.2 = e'.2 := by
  rcases h with ⟨sz, es, g, wr, h1, h2⟩ | ⟨h1, h2⟩ <;> rcases h' with ⟨sz', es', g', wr', h3, h4⟩ | ⟨h3, h4⟩
  · rw [hb, h4] at h2; cases h2; rw [h1, h3]
  · rw [hb] at h2
    rcases h4 with h4 | ⟨_, _, _, h4⟩ <;> rw [h4] at h2 <;> cases h2
  · rw [← hb] at h4
    rcases h2 with h2 | ⟨_, _, _, h2⟩ <;> rw [h4] at h2 <;> cases h2
  · rw [h1, h3]

theorem hupd_not : ∀ (u : List Upd) (h : Nat → Option AObj) (b : Nat), (∀ e ∈ u, e.1 ≠ b) → hupd h u b = h b
  | [], _, _, _ => rfl
  | (c, o) :: u, h, b, hn => by
    simp only [hupd]
    rw [hupd_not u _ b (fun e he => hn e (List.mem_cons_of_mem _ he)), setAt_ne]
    exact fun e => hn (c, o) List.mem_cons_self e.symm

theorem hupd_mem : ∀ (u : List Upd) (h : Nat → Option AObj), (∀ e ∈ u, ∀ e' ∈ u, e.1 = e'.1 → e.2 = e'.2) → ∀ e ∈ u, hupd h u e.1 = e.2
  | [], _, _, _, he => by cases he
  | (c, o) :: u, h, hd, e, he => by
    simp only [hupd]
    have ih := hupd_mem u (setAt h c o) (fun x hx y hy => hd x (List.mem_cons_of_mem _ hx) y (List.mem_cons_of_mem _ hy))
    rcases List.mem_cons.1 he with rfl | he
    · by_cases hex : ∃ e' ∈ u, e'.1 = c
      · obtain ⟨e', he', hc⟩ := hex
        have := ih e' he'
        rw [hc] at this
        show hupd _ u c = o
        rw [this]
        exact (hd (c, o) List.mem_cons_self e' (List.mem_cons_of_mem _ he') hc.symm).symm
      · show hupd _ u c = o
        rw [hupd_not u _ c (fun e' he' h => hex ⟨e', he', h⟩), setAt_same]
    · exact ih e he

theorem hupd_append : ∀ (u u' : List Upd) (h : Nat → Option AObj), hupd h (u ++ u') = hupd (hupd h u) u'
  | [], _, _ => rfl
  | (c, o) :: u, u', h => by simp only [List.cons_append, hupd]; exact hupd_append u u' _

/-- Behind a freeze. -/
structure FzC (C C1 : Cfg) : Prop where
  w : C1.w = C.w
  ι : C1.ι = C.ι
  forb : C1.forb = C.forb
  K : ∀ g, C1.K g → C.K g
  valid : Valid C1
  grow : Grow C C1
  fr : Fr C C1

theorem FzC.refl (hv : Valid C) : FzC C C := ⟨rfl, rfl, rfl, fun _ h => h, hv, .refl C, .refl C⟩
theorem FzC.trans {A B D : Cfg} (h : FzC A B) (h' : FzC B D) : FzC A D :=
  ⟨h'.w.trans h.w, h'.ι.trans h.ι, h'.forb.trans h.forb, fun g k => h.K g (h'.K g k), h'.valid, h.grow.trans h'.grow, h.fr.trans h'.fr⟩

theorem drop_fzc (hv : Valid C) (b : Nat) : ∃ C1, FzC C C1 ∧ C1.h = setAt C.h b none := by
  have hc := chg_drop C b 0
  have hι : setAt C.ι b (C.ι b) = C.ι := by funext c; simp only [setAt]; split <;> simp_all
  refine ⟨C.chg b none (C.ι b) C.w 0 0, ⟨rfl, hι, rfl, fun g h => ?_, chg_valid hv hc fun _ y h => (by cases h), chg_grow hc, chg_fr hc⟩, rfl⟩
  rcases h with h | h
  · exact h
  · omega

theorem frz_apply : ∀ (u : List Upd) (C : Cfg), Valid C → (∀ e ∈ u, FzOk C e) → ∃ C1, FzC C C1 ∧ C1.h = hupd C.h u
  | [], C, hv, _ => ⟨C, .refl hv, rfl⟩
  | (b, x) :: u, C, hv, hu => by
    have h0 := hu (b, x) List.mem_cons_self
    have step : ∃ C1, FzC C C1 ∧ C1.h = setAt C.h b x := by
      rcases h0 with ⟨sz, es, g, wr, h1, h2⟩ | ⟨h1, h2⟩
      · simp only at h1 h2
        subst h1
        obtain ⟨C1, hw, hst, hι, _⟩ := freeze_stp (G := 0) (d := ⟨.undef, [(b, some (.row sz es g false))], 0, 0⟩) hv h2 rfl rfl
        refine ⟨C1, ⟨hw, hι, hst.fr.forb, fun g h => ?_, hst.valid, hst.grow, hst.fr⟩, hst.h⟩
        rcases hst.K g h with h | h
        · exact h
        · simp only at h; omega
      · simp only at h1
        subst h1
        exact drop_fzc hv b
    obtain ⟨C1, hf1, hh1⟩ := step
    have hu1 : ∀ e ∈ u, FzOk C1 e := by
      intro e he
      have := hu e (List.mem_cons_of_mem _ he)
      by_cases hb : e.1 = b
      · have hx : e.2 = x := this.det h0 hb
        have hh : C1.h e.1 = x := by rw [hh1, hb, setAt_same]
        rcases this with ⟨sz, es, g, wr, h3, h4⟩ | ⟨h3, h4⟩
        · exact .inl ⟨sz, es, g, false, h3, by rw [hh, ← hx, h3]⟩
        · exact .inr ⟨h3, .inl (by rw [hh, ← hx, h3])⟩
      · have hh : C1.h e.1 = C.h e.1 := by rw [hh1, setAt_ne _ _ hb]
        rcases this with ⟨sz, es, g, wr, h3, h4⟩ | ⟨h3, h4⟩
        · exact .inl ⟨sz, es, g, wr, h3, by rw [hh]; exact h4⟩
        · exact .inr ⟨h3, by rw [hh]; exact h4⟩
    obtain ⟨C2, hf2, hh2⟩ := frz_apply u C1 hf1.valid hu1
    exact ⟨C2, hf1.trans hf2, by rw [hh2, hh1]; rfl⟩

/-- v' stands for cv once u has been done. -/
def FzTo (C : Cfg) (u : List Upd) (v' : AVal) (cv : Value) : Prop := ∀ C1, FzC C C1 → (∀ e ∈ u, C1.h e.1 = e.2) → VRep C1 v' cv

theorem FzTo.mono {u u' : List Upd} {v : AVal} {cv : Value} (h : FzTo C u v cv) (hs : ∀ e ∈ u, e ∈ u') : FzTo C u' v cv := fun C1 hf hu => h C1 hf fun e he => hu e (hs e he)

def FzF (C : Cfg) {α : Type} (f : AVal → (AVal → List Upd → Rd α) → Rd α) : Prop :=
  ∀ (v : AVal) (cv : Value) (k : AVal → List Upd → Rd α) (r : α), VRep C v cv → (f v k).run C.h = some r → ∃ v' u, (∀ e ∈ u, FzOk C e) ∧ FzTo C u v' cv ∧ (k v' u).run C.h = some r

theorem fzL_sound {α : Type} {f : AVal → (AVal → List Upd → Rd α) → Rd α} (hf : FzF C f) : ∀ (vs : List AVal) (cvs : List Value) (k : List AVal → List Upd → Rd α) (r : α), vs.length = cvs.length →
    (∀ (i : Nat) a v, vs[i]? = some a → cvs[i]? = some v → VRep C a v) → (fzL f vs k).run C.h = some r →
    ∃ vs' u, (∀ e ∈ u, FzOk C e) ∧ vs'.length = cvs.length ∧ (∀ (i : Nat) a v, vs'[i]? = some a → cvs[i]? = some v → FzTo C u a v) ∧ (k vs' u).run C.h = some r
  | [], cvs, k, r, hl, _, h => ⟨[], [], by simp, by simpa using hl, by simp, h⟩
  | v :: vs, [], k, r, hl, _, h => by simp at hl
  | v :: vs, cv :: cvs, k, r, hl, hr, h => by
    simp only [fzL] at h
    obtain ⟨v', u, h1, h2, h3⟩ := hf v cv _ r (hr 0 v cv rfl rfl) h
    obtain ⟨vs', u', h4, h5, h6, h7⟩ := fzL_sound hf vs cvs _ r (by simpa using hl) (fun i => hr (i + 1)) h3
    refine ⟨v' :: vs', u ++ u', fun e he => (List.mem_append.1 he).elim (h1 e) (h4 e), by simp [h5], fun i a w ha hw => ?_, h7⟩
    cases i with
    | zero =>
      simp only [List.getElem?_cons_zero, Option.some.injEq] at ha hw
      subst ha; subst hw
      exact h2.mono fun e he => List.mem_append_left _ he
    | succ i => exact (h6 i a w ha hw).mono fun e he => List.mem_append_right _ he

theorem fzLL_sound {α : Type} {f : AVal → (AVal → List Upd → Rd α) → Rd α} (hf : FzF C f) : ∀ (vs : List (List AVal)) (cvs : List (List Value)) (k : List (List AVal) → List Upd → Rd α) (r : α), vs.length = cvs.length →
    (∀ (i : Nat) (a : List AVal) (v : List Value), vs[i]? = some a → cvs[i]? = some v → a.length = v.length ∧ ∀ (j : Nat) x y, a[j]? = some x → v[j]? = some y → VRep C x y) → (fzLL f vs k).run C.h = some r →
    ∃ vs' u, (∀ e ∈ u, FzOk C e) ∧ vs'.length = cvs.length ∧ (∀ (i : Nat) (a : List AVal) (v : List Value), vs'[i]? = some a → cvs[i]? = some v → a.length = v.length ∧ ∀ (j : Nat) x y, a[j]? = some x → v[j]? = some y → FzTo C u x y) ∧ (k vs' u).run C.h = some r
  | [], cvs, k, r, hl, _, h => ⟨[], [], by simp, by simpa using hl, by simp, h⟩
  | v :: vs, [], k, r, hl, _, h => by simp at hl
  | v :: vs, cv :: cvs, k, r, hl, hr, h => by
    simp only [fzLL] at h
    obtain ⟨hlen, hrep⟩ := hr 0 v cv rfl rfl
    obtain ⟨v', u, h1, h2, h2', h3⟩ := fzL_sound hf v cv _ r hlen hrep h
    obtain ⟨vs', u', h4, h5, h6, h7⟩ := fzLL_sound hf vs cvs _ r (by simpa using hl) (fun i => hr (i + 1)) h3
    refine ⟨v' :: vs', u ++ u', fun e he => (List.mem_append.1 he).elim (h1 e) (h4 e), by simp [h5], fun i a w ha hw => ?_, h7⟩
    cases i with
    | zero =>
      simp only [List.getElem?_cons_zero, Option.some.injEq] at ha hw
      subst ha; subst hw
      exact ⟨h2, fun j x y hx hy => (h2' j x y hx hy).mono fun e he => List.mem_append_left _ he⟩
    | succ i =>
      obtain ⟨h8, h9⟩ := h6 i a w ha hw
      exact ⟨h8, fun j x y hx hy => (h9 j x y hx hy).mono fun e he => List.mem_append_right _ he⟩

/-- A frozen row's slice, with other values in its cells' places. -/
theorem frozen_il' {C1 : Cfg} (hv1 : Valid C1) {b g sz lo n : Nat} {es : List (List AVal)} (hb1 : C1.h b = some (.row sz es g false)) {p : Option Addr} {cap : Nat} (h1 : VRep C1 (.sl b g lo n) (.slice p n cap)) {f : Nat → Value}
    (hcell : n ≠ 0 → ∃ B o, p = some ⟨B, o, none⟩ ∧ ∀ q, q < n * sz → C1.w.cell? ⟨B, o + q, none⟩ = some (f q)) (ys : List (List AVal)) (hy : ys.length = n) (hysz : ∀ e ∈ ys, e.length = sz)
    (hrep : ∀ i j e a, ys[i]? = some e → e[j]? = some a → VRep C1 a (f (i * sz + j))) : VRep C1 (.il ys false) (.slice p n cap) := by
  obtain ⟨p0, cap0, heq, hle, hk, hcase⟩ := sl_live h1 hb1
  obtain ⟨rfl, _, rfl⟩ := Value.slice.inj heq
  have hlen : ((es.drop lo).take n).length = n := by simp; omega
  have hcap : n ≤ cap := by rcases hcase with ⟨a, b⟩ | ⟨B, s, T, N, _, _, _, h, _⟩ <;> omega
  have hmax : cap ≤ maxLen := by
    rcases hcase with ⟨a, b⟩ | ⟨B, s, T, N, _, _, _, _, _, h⟩
    · rw [b]; exact Nat.zero_le _
    · exact h
  have hfull := frozen_il hv1 hb1 h1 false cap hcap (Nat.le_refl _) (by simp)
  by_cases hn : n = 0
  · subst hn
    have : ys = [] := List.eq_nil_of_length_eq_zero hy
    subst this
    exact .il [] false p cap 0 0 0 (fun _ _ => undef) (Nat.zero_le _) (by simp) hmax (fun h => absurd rfl h) (by simp) (by simp) (by simp)
  · obtain ⟨B, o, rfl, hc⟩ := hcell hn
    have hszs : ∀ e ∈ (es.drop lo).take n, e.length = sz := fun e he => (hv1.obj b _ hb1).2.1 e (List.mem_of_mem_drop (List.mem_of_mem_take he))
    have := VRep.il (C := C1) ys false (some ⟨B, o, none⟩) cap B o sz (fun i j => f (i * sz + j)) (by omega) (by simp) hmax (fun _ => rfl) hysz (fun i j e a hi hj => hrep i j e a hi hj)
      (fun i j e a hi hj => by
        have hi' : i < n := by rw [← hy]; exact (List.getElem?_eq_some_iff.1 hi).1
        have hj' : j < sz := by rw [← hysz e (List.mem_of_getElem? hi)]; exact (List.getElem?_eq_some_iff.1 hj).1
        have hm : i * sz + sz ≤ n * sz := by rw [← Nat.succ_mul]; exact Nat.mul_le_mul_right _ hi'
        refine ⟨hc _ (by omega), ?_⟩
        generalize hg : (.slice (some ⟨B, o, none⟩) n cap : Value) = gv at hfull
        cases hfull with
        | il _ _ p' cap' B' o' sz' vs' h2 h3 h4 h5 h6 h7 h8 =>
          have hne : (es.drop lo).take n ≠ [] := by intro h; rw [h] at hlen; simp at hlen; omega
          have hp' := h5 hne
          obtain ⟨e1, _, _⟩ := Value.slice.inj hg
          rw [hp'] at e1
          cases e1
          have hix : ((es.drop lo).take n)[i]? = some (((es.drop lo).take n)[i]'(by omega)) := List.getElem?_eq_getElem (by omega)
          have hl1 : (((es.drop lo).take n)[i]'(by omega)).length = sz := hszs _ (List.getElem_mem _)
          have hl2 : (((es.drop lo).take n)[i]'(by omega)).length = sz' := h6 _ (List.getElem_mem _)
          have hss : sz' = sz := by omega
          subst hss
          exact (h8 i j _ _ hix (List.getElem?_eq_getElem (by omega))).2)
    rw [hy] at this
    exact this

theorem fz_sound {α : Type} (hv : Valid C) : ∀ (d : Nat), FzF C (fz (α := α) d)
  | 0 => fun v cv k r _ h => by simp [fz, Rd.run] at h
  | d + 1 => by
    intro v cv k r hr h
    have keep : ∀ {x : AVal}, VRep C x cv → (k x []).run C.h = some r → ∃ v' u, (∀ e ∈ u, FzOk C e) ∧ FzTo C u v' cv ∧ (k v' u).run C.h = some r :=
      fun hx hk => ⟨_, [], by simp, fun C1 hf _ => hf.grow.rep hx, hk⟩
    cases v with
    | sl b g lo n =>
      simp only [fz] at h
      replace h := rd_row h; obtain ⟨sz, es, wr, hb, h⟩ := h
      obtain ⟨p, cap, hcv, hle, hK, hcase⟩ := sl_live hr hb
      subst hcv
      have hcap : n ≤ cap := by rcases hcase with ⟨a, b⟩ | ⟨B, s, T, N, _, _, _, h, _⟩ <;> omega
      split at h
      · refine ⟨_, _, fun e he => ?_, fun C1 hf hu => ?_, h⟩
        · simp only [List.mem_singleton] at he
          subst he
          exact .inl ⟨sz, es, g, wr, rfl, hb⟩
        · have hb1 := hu _ (List.mem_singleton.2 rfl)
          exact frozen_il hf.valid hb1 (hf.grow.rep hr) false cap hcap (Nat.le_refl _) (by simp)
      · obtain ⟨p', cap', f, hel⟩ := sl_el hv hr hb
        have hlen : ((es.drop lo).take n).length = n := by simp; omega
        obtain ⟨rfl, _, rfl⟩ := Value.slice.inj hel.eq
        have hget : ∀ (i : Nat) (v : List Value), ((List.range n).map fun i => (List.range sz).map fun j => f (i * sz + j))[i]? = some v → v = (List.range sz).map fun j => f (i * sz + j) := by
          intro i v hvv
          rw [List.getElem?_map] at hvv
          cases hri : (List.range n)[i]? with
          | none => rw [hri] at hvv; cases hvv
          | some q =>
            rw [hri] at hvv
            have : q = i := by
              obtain ⟨_, hq⟩ := List.getElem?_eq_some_iff.1 hri
              simpa using hq.symm
            subst this
            exact (Option.some.inj hvv).symm
        obtain ⟨ys, u, h1, h2, h3, h4⟩ := fzLL_sound (fz_sound hv d) ((es.drop lo).take n) ((List.range n).map fun i => (List.range sz).map fun j => f (i * sz + j)) _ r (by rw [hlen]; simp) (fun i a v ha hvv => by
          have hv' := hget i v hvv
          have hal := hel.size a (List.mem_of_getElem? ha)
          refine ⟨by rw [hv', hal]; simp, fun j x y hx hy => ?_⟩
          rw [hv', List.getElem?_map] at hy
          have hjs : j < sz := by rw [← hal]; exact (List.getElem?_eq_some_iff.1 hx).1
          rw [List.getElem?_range hjs] at hy
          simp only [Option.map_some, Option.some.injEq] at hy
          rw [← hy]
          exact hel.rep i j a x ha hx) h
        refine ⟨.il ys false, u ++ [(b, some (.row sz es g false))], fun e he => (List.mem_append.1 he).elim (h1 e) (fun he => ?_), fun C1 hf hu => ?_, h4⟩
        · simp only [List.mem_singleton] at he
          subst he
          exact .inl ⟨sz, es, g, wr, rfl, hb⟩
        · have hb1 := hu (b, some (.row sz es g false)) (List.mem_append_right _ (List.mem_singleton.2 rfl))
          have hyl : ys.length = n := by rw [h2]; simp
          have hrow : ∀ (i : Nat) (a : List AVal), ys[i]? = some a → a.length = sz ∧ ∀ j x, a[j]? = some x → VRep C1 x (f (i * sz + j)) := by
            intro i a ha
            have hi : i < n := by rw [← hyl]; exact (List.getElem?_eq_some_iff.1 ha).1
            have hcv : ((List.range n).map fun i => (List.range sz).map fun j => f (i * sz + j))[i]? = some ((List.range sz).map fun j => f (i * sz + j)) := by
              rw [List.getElem?_map, List.getElem?_range hi]; rfl
            obtain ⟨h5, h6⟩ := h3 i a _ ha hcv
            have hal : a.length = sz := by rw [h5]; simp
            refine ⟨hal, fun j x hx => ?_⟩
            have hjs : j < sz := by rw [← hal]; exact (List.getElem?_eq_some_iff.1 hx).1
            exact h6 j x _ hx (by rw [List.getElem?_map, List.getElem?_range hjs]; rfl) C1 hf (fun e he => hu e (List.mem_append_left _ he))
          refine frozen_il' hf.valid hb1 (hf.grow.rep hr) (f := f) (fun hn => ?_) ys hyl (fun e he => ?_) (fun i j e a hi hj => (hrow i e hi).2 j a hj)
          · have hne : (es.drop lo).take n ≠ [] := by intro h; rw [h] at hlen; simp at hlen; omega
            obtain ⟨B, o, hp, hc⟩ := hel.cell hne
            refine ⟨B, o, hp, fun q hq => ?_⟩
            rw [hf.w]
            exact hc q (by rw [hlen]; exact hq)
          · obtain ⟨i, hi⟩ := List.getElem?_of_mem he
            exact (hrow i e hi).1
    | agg cs =>
      simp only [fz] at h
      cases hr with
      | agg cs vs hl hrep =>
        obtain ⟨cs', u, h1, h2, h3, h4⟩ := fzL_sound (fz_sound hv d) cs vs.toList _ r (by simpa using hl) (fun i a v ha hvv => hrep i a v ha (by rw [← Array.getElem?_toList]; exact hvv)) h
        refine ⟨.agg cs', u, h1, fun C1 hf hu => .agg _ _ (by simpa using h2) fun i a v ha hvv => ?_, h4⟩
        exact h3 i a v ha (by rw [Array.getElem?_toList]; exact hvv) C1 hf hu
    | mp b g =>
      simp only [fz] at h
      replace h := rd_map h; obtain ⟨es, ver, hb, h⟩ := h
      obtain ⟨B, ents, clock, rfl, hi, hat, hl, hrep, hborn, hclk⟩ := mp_live hr hv hb
      refine ⟨.im es, [(b, none)], fun e he => ?_, fun C1 hf hu => ?_, h⟩
      · simp only [List.mem_singleton] at he
        subst he
        exact .inr ⟨rfl, .inr ⟨es, g, ver, hb⟩⟩
      · have hb1 := hu _ (List.mem_singleton.2 rfl)
        refine .im es B ents clock (by rw [hf.w]; exact hat) hl (fun i k v e h1 h2 => hf.grow.rep (hrep i k v e h1 h2).1) (fun i k v e h1 h2 => hf.grow.rep (hrep i k v e h1 h2).2) hborn hclk fun o => ⟨?_, fun b' x s hx hi' => ?_⟩
        · rw [hf.forb]
          exact fun hfb => (hv.forb B o hfb).2 ⟨b, _, 0, hb, hi⟩
        · have hgen : C1.K x.gen := by
            have := hf.valid.obj b' x hx
            cases x <;> exact this.1
          obtain ⟨x0, hx0, _, _⟩ := hf.grow.live b' x hx (hf.K _ hgen)
          rw [hf.ι] at hi'
          have := hv.inj b' b x0 _ B s 0 hx0 hb hi' hi
          subst this
          rw [hb1] at hx
          cases hx
    | _ => exact keep hr h

/-! ### A function's contract -/
abbrev FSpec := List AVal → Nat → Nat → Rd Delta

/-- Pointwise. -/
def VReps (C : Cfg) (as : List AVal) (vs : List Value) : Prop := as.length = vs.length ∧ ∀ (i : Nat) (a : AVal) (v : Value), as[i]? = some a → vs[i]? = some v → VRep C a v

/-- A function that is entered when it is called. -/
def Enters (P : Program) (f : FuncId) : Prop := ∃ fn c, P.funcs[f]? = some fn ∧ (fn.name == "runtime.NumGoroutine") = false ∧ fn.body = some c

/-- A function does what its contract says. -/
def FSound (P : Program) (f : FuncId) (S : FSpec) : Prop :=
  ∀ (C : Cfg) (as : List AVal) (vs : Array Value) (nx G : Nat) (d : Delta), Valid C → VReps C as vs.toList → (∀ g, G ≤ g → g < d.G → ¬ C.K g) → (S as nx G).run C.h = some d →
    Enters P f ∧ Calls P f vs C.w fun e w' => ∃ C' v, e = .returned v ∧ C'.w = w' ∧ VRep C' d.v v ∧ Stp C G d C'

def Ext.Sound (P : Program) (X : Ext) : Prop := ∀ f, FSound P f (X.spec f)

theorem find_rev : ∀ (u : List Upd) (h : Nat → Option AObj) (b : Nat), hupd h u b = (u.reverse.find? (fun e => e.1 = b)).elim (h b) (·.2)
  | [], _, _ => rfl
  | (c, o) :: u, h, b => by
    simp only [hupd, List.reverse_cons, List.find?_append, find_rev u]
    cases hf : u.reverse.find? (fun e => e.1 = b) with
    | some e => rfl
    | none =>
      by_cases hc : c = b
      · subst hc; simp [setAt]
      · simp [setAt, hc, Ne.symm hc]

theorem bindUpd_run (u : List Upd) : ∀ (r : Rd Delta) (h : Nat → Option AObj) (d : Delta), (callR.bindUpd u r).run h = some d → ∃ d0, r.run (hupd h u) = some d0 ∧ d = { d0 with upd := u ++ d0.upd }
  | .ret d0, h, d, hr => ⟨d0, rfl, by simp only [callR.bindUpd, Rd.run, Option.some.injEq] at hr; exact hr.symm⟩
  | .fail, _, _, hr => by simp [callR.bindUpd, Rd.run] at hr
  | .get b k, h, d, hr => by
    simp only [callR.bindUpd, Rd.run] at hr
    rw [← find_rev u h b] at hr
    obtain ⟨d0, h1, h2⟩ := bindUpd_run u (k (hupd h u b)) h d hr
    exact ⟨d0, by simp only [Rd.run]; exact h1, h2⟩

/-- What a call comes to. -/
theorem call_sound (hv : Valid C) {X : Ext} (hX : X.Sound P) {nx G : Nat} {f : AVal} {vf : Value} (hf : VRep C f vf) {as : List AVal} {vs : List Value} (ha : VReps C as vs) {d : Delta} (hG : ∀ g, G ≤ g → g < d.G → ¬ C.K g) (h : (callR X nx G f as).run C.h = some d) :
    ∃ id us cs, vf = .func (.func id) us cs ∧ Enters P id ∧ Calls P id (us ++ vs.toArray ++ cs) C.w fun e w' => ∃ C' v, e = .returned v ∧ C'.w = w' ∧ VRep C' d.v v ∧ Stp C G d C' := by
  unfold callR at h
  split at h
  case h_2 => exact (rd_fail h).elim
  rename_i id first captured
  cases hf with
  | fn _ fs cs us ws h1 h2 hfr hcr =>
    refine ⟨id, us, ws, rfl, ?_⟩
    have hall : VReps C (first ++ as ++ captured) (us ++ vs.toArray ++ ws).toList := by
      refine ⟨by simp [h1, h2, ha.1], fun i a v hi hvv => ?_⟩
      simp only [Array.toList_append] at hvv
      by_cases hi1 : i < first.length
      · rw [List.getElem?_append_left (by simp; omega), List.getElem?_append_left hi1] at hi
        rw [List.getElem?_append_left (by simp; omega), List.getElem?_append_left (by simp; omega), Array.getElem?_toList] at hvv
        exact hfr i a v hi hvv
      · by_cases hi2 : i < first.length + as.length
        · rw [List.getElem?_append_left (by simp; omega), List.getElem?_append_right (by omega)] at hi
          have hal := ha.1
          rw [List.getElem?_append_left (by simp; omega), List.getElem?_append_right (by simp; omega)] at hvv
          simp only [Array.length_toList] at hvv
          rw [← h1] at hvv
          exact ha.2 _ a v hi hvv
        · have hal := ha.1
          rw [List.getElem?_append_right (by simp; omega)] at hi
          rw [List.getElem?_append_right (by simp; omega), Array.getElem?_toList] at hvv
          simp only [List.length_append, Array.length_toList] at hi hvv
          have : us.size + vs.length = first.length + as.length := by omega
          rw [this] at hvv
          exact hcr _ a v hi hvv
    simp only at h
    split at h
    · exact hX id C _ _ nx G d hv hall hG h
    · obtain ⟨as', u, hu, hlen, hto, h⟩ := fzL_sound (fz_sound hv 4) _ _ _ d hall.1 hall.2 h
      obtain ⟨C1, hfz, hh1⟩ := frz_apply u C hv hu
      have hmem : ∀ e ∈ u, C1.h e.1 = e.2 := fun e he => by
        rw [hh1]
        exact hupd_mem u C.h (fun e he e' he' hb => (hu e he).det (hu e' he') hb) e he
      obtain ⟨d0, hrun, rfl⟩ := bindUpd_run u _ _ d h
      rw [← hh1] at hrun
      have hreps : VReps C1 as' (us ++ vs.toArray ++ ws).toList := ⟨hlen, fun i a v hi hvv => hto i a v hi hvv C1 hfz hmem⟩
      have := hX id C1 as' _ nx G d0 hfz.valid hreps (fun g h1 h2 hk => hG g h1 h2 (hfz.K g hk)) hrun
      rw [hfz.w] at this
      refine ⟨this.1, this.2.mono fun e w' ⟨C', v, h1, h2, h3, h4⟩ => ⟨C', v, h1, h2, h3, ?_, fun g hg => ?_, h4.valid, hfz.grow.trans h4.grow, hfz.fr.trans h4.fr, h4.G⟩⟩
      · simp only
        rw [hupd_append, h4.h, hh1]
      · rcases h4.K g hg with h5 | h5
        · exact .inl (hfz.K g h5)
        · exact .inr h5

end Go.AI

namespace Go.AI
variable {P : Program} {X : Ext} {ops : Array Oper} {C : Cfg} {N : Nat}

/-- Fences: of activations and of rounds alike. -/
def W (r : Option Nat) : Fence := { Fence.wide with round := r }

theorem callsIn_W {r : Option Nat} {n : Nat} {f : FuncId} {args : Array Value} {w : World} {R : Ending → World → Prop} (h : Calls P f args w R) : CallsIn (W r) n P f args w R :=
  (callsIn_wide (n := n)).2 h

/-- One operation's deed. -/
structure Rec where
  nx : Nat
  G : Nat
  d : Delta
  rs : List Nat

def stepA (P : Program) (X : Ext) (ops : Array Oper) (s : St) (o : Oper) : Option Rec :=
  match wantedA ops s o with
  | none => none
  | some false => some ⟨s.nx, s.G, ⟨.tup [], [], s.nx, s.G⟩, []⟩
  | some true =>
    match (opR P X s.ev s.nx s.G o).run (hget s.heap) with
    | none => none
    | some d => some ⟨s.nx, s.G, d, (opR P X s.ev s.nx s.G o).reads (hget s.heap)⟩

def runL (P : Program) (X : Ext) (ops : Array Oper) : List Oper → St → Option St
  | [], s => some s
  | o :: l, s => match stepA P X ops s o with
    | none => none
    | some r => runL P X ops l (s.app o.dst r.d)

/-- The deferred calls are the marks of loops over functions, with nothing collected. -/
abbrev mark (D : Nat) : Deferred := { target := .collected D, args := #[] }

def Marks (C : Cfg) (l : List Deferred) : Prop := ∃ Ds : List Nat, l = Ds.map mark ∧ Ds.Nodup ∧ ∀ D ∈ Ds, C.w.heap[D]? = some (.deferred (some [])) ∧ ¬ C.owned D

theorem Marks.nil (C : Cfg) : Marks C [] := ⟨[], rfl, .nil, by simp⟩

theorem Marks.fr {C C' : Cfg} {l : List Deferred} (h : Marks C l) (hf : Fr C C') : Marks C' l := by
  obtain ⟨Ds, h1, h2, h3⟩ := h
  refine ⟨Ds, h1, h2, fun D hD => ?_⟩
  obtain ⟨h4, h5⟩ := h3 D hD
  have hlt : D < C.w.heap.size := (Array.getElem?_eq_some_iff.1 h4).1
  exact ⟨(hf.same D hlt h5).trans h4, fun ho => (hf.own D ho).elim h5 (fun h => by omega)⟩

/-- The abstract state s stands for activation and world. -/
structure RelS (C : Cfg) (N : Nat) (s : St) (a : Act) : Prop where
  valid : Valid C
  h : C.h = hget s.heap
  tmps : ∀ t, VRep C (tget s.tmps t) (a.tmps.getD t undef)
  size : a.tmps.size = N
  defers : Marks C a.defers
  K : ∀ g, C.K g → g < s.G

theorem run_congr {α : Type} : ∀ (r : Rd α) (h h' : Nat → Option AObj), (∀ b ∈ r.reads h, h' b = h b) → r.run h' = r.run h
  | .ret _, _, _, _ => rfl
  | .fail, _, _, _ => rfl
  | .get b k, h, h', hb => by
    have h0 : h' b = h b := hb b (by simp [Rd.reads])
    simp only [Rd.run]
    rw [h0]
    exact run_congr (k (h b)) h h' fun c hc => hb c (by simp [Rd.reads, hc])

/-! ### What an operation looks at -/
theorem map_congr {ρ ρ' : Operand → AVal} {xs : Array Operand} (h : ∀ x ∈ xs, ρ x = ρ' x) : xs.toList.map ρ = xs.toList.map ρ' :=
  List.map_congr_left fun x hx => h x (by simpa using hx)

theorem opR_congr {ρ ρ' : Operand → AVal} {nx G : Nat} (o : Oper) (h : ∀ x ∈ o.op.operands, ρ x = ρ' x) : opR P X ρ nx G o = opR P X ρ' nx G o := by
  unfold opR
  cases ho : o.op <;> simp only [ho, Op.operands] at h ⊢
  case move x => rw [h x (by simp)]
  case assign x => rw [h x (by simp)]
  case pick c a b => rw [h c (by simp), h a (by simp), h b (by simp)]
  case box t x => rw [h x (by simp)]
  case build t ps =>
    congr 1
    refine List.map_congr_left fun p hp => ?_
    rw [h p.2 (by simp only [List.mem_toArray, List.mem_map]; exact ⟨p, hp, rfl⟩)]
  case buildSlice t l ps =>
    congr 1
    refine List.map_congr_left fun p hp => ?_
    rw [h p.2 (by simp only [List.mem_toArray, List.mem_map]; exact ⟨p, hp, rfl⟩)]
  case load t x => rw [h x (by simp)]
  case store t a v => rw [h a (by simp), h v (by simp)]
  case nilCheck x => rw [h x (by simp)]
  case binOp op t x y u => rw [h x (by simp), h y (by simp)]
  case unOp op t x => rw [h x (by simp)]
  case convert s d x => rw [h x (by simp)]
  case makeFunc f a b =>
    rw [map_congr (ρ := ρ) (ρ' := ρ') (xs := a) fun x hx => h x (by simp [hx]), map_congr (ρ := ρ) (ρ' := ρ') (xs := b) fun x hx => h x (by simp [hx])]
  case makeMap t r => cases r <;> rfl
  case makeSlice t l c => rw [h l (by simp), h c (by simp)]
  case slice t x lo hi mx =>
    have hopt : ∀ (y : Option Operand) (d : Int), (∀ z, y = some z → ρ z = ρ' z) → optA ρ y d = optA ρ' y d := by
      intro y d hy
      cases y with
      | none => rfl
      | some z => simp only [optA, hy z rfl]
    have hlo := fun d => hopt lo d fun z hz => h z (by simp [hz])
    have hhi := fun d => hopt hi d fun z hz => h z (by simp [hz])
    unfold sliceR
    rw [h x (by simp)]
    cases mx with
    | none => simp only [hlo, hhi]
    | some m => simp only [hlo, hhi, h m (by simp)]
  case fieldAddr s x f => rw [h x (by simp)]
  case field t x f => rw [h x (by simp)]
  case indexAddr t x i => rw [h x (by simp), h i (by simp)]
  case index t x i => rw [h x (by simp), h i (by simp)]
  case lookup t m k ok => rw [h m (by simp), h k (by simp)]
  case mapUpdate t m k v => rw [h m (by simp), h k (by simp), h v (by simp)]
  case insert t m k v => rw [h m (by simp), h k (by simp), h v (by simp)]
  case extract t i => rw [h t (by simp)]
  case call c =>
    have hargs : ∀ x ∈ c.args, x ∈ c.operands := fun x hx => by cases c.callee <;> simp_all [Call.operands]
    rw [map_congr (ρ := ρ) (ρ' := ρ') (xs := c.args) fun x hx => h x (hargs x hx)]
    split
    · rfl
    · rename_i f hf
      rw [h f (by simp [Call.operands, hf])]
    · rfl

/-! ### One operation -/
theorem isCall_op {o : Oper} (h : isCall o = true) : ∃ c f, o.op = .call c ∧ c.callee = .value f := by
  unfold isCall at h
  split at h
  · rename_i c hc
    split at h
    · rename_i f hf
      exact ⟨c, f, hc, hf⟩
    · cases h
  · cases h

theorem size_put (a : Act) (d : Option Tmp) (v : Value) : (a.put d v).tmps.size = a.tmps.size := by cases d <;> simp [Act.put]
theorem defers_put (a : Act) (d : Option Tmp) (v : Value) : (a.put d v).defers = a.defers := by cases d <;> rfl

theorem op_wp (hX : X.Sound P) (hv : Valid C) {r : Option Nat} {n nx G : Nat} {o : Oper} {ρ : Operand → AVal} {a : Act} (hρ : ∀ x, VRep C (ρ x) (a.eval x)) {d : Delta} (hG : ∀ g, G ≤ g → g < d.G → ¬ C.K g)
    (h : (opR P X ρ nx G o).run C.h = some d) {K : Act → World → Prop} {Q : Exit → Act → World → Prop} (hK : ∀ C' v, VRep C' d.v v → Stp C G d C' → K (a.put o.dst v) C'.w) :
    o.wpIn (W r) n P a C.w K Q := by
  refine ⟨fun _ _ => trivial, ?_⟩
  by_cases hc : isCall o = true
  · obtain ⟨c, f, ho, hf⟩ := isCall_op hc
    have hsem : (o.semAt (W r).round a.eval) = execOp a.eval o := Oper.semAt_eq _ _ _ (by rw [ho]; simp)
    rw [hsem]
    simp only [opR, ho, hf] at h
    have hreps : VReps C (c.args.toList.map ρ) (c.args.map a.eval).toList := by
      obtain ⟨_, h2⟩ := map_rep hρ c.args
      exact ⟨by simp, fun i x y hx hy => h2 i x y hx (by rw [← Array.getElem?_toList]; exact hy)⟩
    obtain ⟨id, us, cs, hvf, ⟨fn, body, hf1, hf2, hf3⟩, hcall⟩ := call_sound hv hX (hρ f) hreps hG h
    have hrun : (execOp a.eval o).run P C.w = .ok (.enter id (us ++ c.args.map a.eval ++ cs)) C.w := by
      have hnm : fn.name ≠ "runtime.NumGoroutine" := by simpa using hf2
      simp [execOp, ho, resolve, Deferred.ofValue, hf, hvf, invoke, callFunc, hf1, hnm, hf3]
    rw [hrun]
    refine ⟨fun h => by simp [W, Fence.wide] at h, callsIn_W ?_⟩
    have hva : (c.args.map a.eval).toList.toArray = c.args.map a.eval := Array.toArray_toList
    rw [hva] at hcall
    refine hcall.mono fun e w' ⟨C', v, he, hw, hr, hs⟩ => ?_
    subst he; subst hw
    exact hK C' v hr hs
  · have hc' : isCall o = false := by simpa using hc
    have hsem : (o.semAt (W r).round a.eval) = execOp a.eval o := Oper.semAt_eq _ _ _ (by
      intro c ho
      simp [opR, ho, Rd.run] at h)
    rw [hsem]
    obtain ⟨C', v, hr, hrep, hs⟩ := op_sound hv hρ (fun _ => rfl) hG hc' h
    rcases hr with hr | ⟨hr, rfl⟩
    · rw [hr]; exact hK C' v hrep hs
    · rw [hr]; exact hK C' undef hrep hs

theorem ev_rep {s : St} {a : Act} (h : ∀ t, VRep C (tget s.tmps t) (a.tmps.getD t undef)) (x : Operand) : VRep C (s.ev x) (a.eval x) := by
  cases x with
  | tmp t => exact h t
  | const v => exact ofVal_rep v
  | func f => exact .fn _ [] [] #[] #[] rfl rfl (by simp) (by simp)
  | global g => exact .undef _

/-- What an operation with its guard comes to. -/
theorem wanted_rep {s : St} {a : Act} {o : Oper} (h : ∀ d ∈ o.looksAt ops, VRep C (tget s.tmps d) (a.tmps.getD d undef)) {b : Bool} (hw : wantedA ops s o = some b) : Region.wanted o (yielded ops a.tmps) = b := by
  unfold wantedA at hw
  unfold Region.wanted
  cases hg : o.guard with
  | none => simp only [hg] at hw ⊢; exact Option.some.inj hw
  | some jw =>
    obtain ⟨j, want⟩ := jw
    simp only [hg] at hw ⊢
    cases hd : (ops[j]?).bind (·.dst) with
    | none => rw [hd] at hw; cases hw
    | some d =>
      rw [hd] at hw
      simp only at hw
      have hr := h d (by simp [Oper.looksAt, hg, hd])
      unfold yielded
      rw [hd]
      simp only [Option.bind_some]
      have hgd : a.tmps.getD d undef = (a.tmps[d]?).getD undef := by simp
      rw [hgd] at hr
      generalize htg : tget s.tmps d = x at hw hr
      split at hw
      · rename_i v
        have hb := Option.some.inj hw
        cases hx : a.tmps[d]? with
        | none => rw [hx] at hr; cases hr
        | some y =>
          rw [hx] at hr
          simp only [Option.getD_some] at hr
          cases hr
          rw [← hb]
          cases v <;> cases want <;> rfl
      · have hb := Option.some.inj hw
        subst hb
        cases hx : a.tmps[d]? with
        | none => rfl
        | some y =>
          rw [hx] at hr
          simp only [Option.getD_some] at hr
          cases hr
          rfl
      · cases hw

/-- One operation, where the heap agrees on what is read. -/
theorem step_wp (hX : X.Sound P) (hv : Valid C) {r : Option Nat} {n i : Nat} {o : Oper} {s : St} {rec : Rec} {a : Act} (ho : ops[i]? = some o) (h : stepA P X ops s o = some rec)
    {ρ : Operand → AVal} (hρ : ∀ x, VRep C (ρ x) (a.eval x)) (hsame : ∀ x ∈ o.op.operands, s.ev x = ρ x) (hw : ∀ b, wantedA ops s o = some b → Region.wanted o (yielded ops a.tmps) = b)
    (hh : ∀ b ∈ rec.rs, C.h b = hget s.heap b) (hG : ∀ g, rec.G ≤ g → g < rec.d.G → ¬ C.K g) {K : Act → World → Prop} {Q : Exit → Act → World → Prop}
    (hK : ∀ C' v, VRep C' rec.d.v v → Stp C rec.G rec.d C' → K (a.put o.dst v) C'.w) : wpOpIn (W r) n P ops Q i K a C.w := by
  unfold wpOpIn
  rw [ho]
  simp only
  unfold stepA at h
  split at h
  · cases h
  · rename_i hwa
    rw [if_neg (by rw [hw _ hwa]; simp)]
    cases h
    exact ⟨fun _ _ => trivial, hK C undef (rep_undef C) (Stp.same hv _ rfl (Nat.le_refl _))⟩
  · rename_i hwa
    rw [if_pos (hw _ hwa)]
    split at h
    · cases h
    · rename_i d hd
      cases h
      refine op_wp (nx := s.nx) hX hv hρ hG ?_ hK
      show (opR P X ρ s.nx s.G o).run C.h = some d
      rw [← opR_congr o hsame, run_congr _ (hget s.heap) C.h hh]
      exact hd

theorem tget_app (s : St) (d : Option Tmp) (x : Delta) (t : Nat) : tget (s.app d x).tmps t = if d = some t then x.v else tget s.tmps t := by
  cases d with
  | none => rfl
  | some d =>
    simp only [St.app, tget, Option.some.injEq]

theorem hget_app (s : St) (d : Option Tmp) (x : Delta) : hget (s.app d x).heap = hupd (hget s.heap) x.upd := by
  simp only [St.app]
  generalize x.upd = u
  have key : ∀ (u : List Upd) (l : AHeap), hget (u.reverse ++ l) = hupd (hget l) u := by
    intro u
    induction u with
    | nil => intro l; rfl
    | cons e u ih =>
      intro l
      rw [List.reverse_cons, List.append_assoc, ih]
      simp only [hupd, List.singleton_append]
      congr 1
      funext b
      obtain ⟨c, x⟩ := e
      simp only [hget, setAt]
      by_cases hcb : b = c
      · subst hcb; simp
      · rw [if_neg hcb, if_neg (Ne.symm hcb)]
  exact key u s.heap

theorem tmps_put {C C' : Cfg} (hg : Grow C C') {f : Nat → AVal} {a : Act} (h : ∀ t, VRep C (f t) (a.tmps.getD t undef)) {d : Option Tmp} {v : Value} {x : AVal} (hx : VRep C' x v) (hN : ∀ t, d = some t → t < a.tmps.size) (t : Nat) :
    VRep C' (if d = some t then x else f t) ((a.put d v).tmps.getD t undef) := by
  cases d with
  | none => simpa [Act.put] using hg.rep (h t)
  | some d =>
    by_cases hdt : d = t
    · subst hdt
      have hlt := hN d rfl
      simpa [Act.put, hlt] using hx
    · have := hg.rep (h t)
      simp only [Option.some.injEq, hdt, if_false, Act.put]
      rw [Array.getD_eq_getD_getElem?, Array.getElem?_setIfInBounds_ne hdt, ← Array.getD_eq_getD_getElem?]
      exact this

/-- The operations' places are the frame's. -/
def dstsOk (N : Nat) (l : List Oper) : Bool := l.all fun o => match o.dst with | some d => decide (d < N) | none => true

theorem dstsOk_spec {l : List Oper} (h : dstsOk N l = true) {o : Oper} (ho : o ∈ l) {d : Nat} (hd : o.dst = some d) : d < N := by
  simp only [dstsOk, List.all_eq_true] at h
  have := h o ho
  rw [hd] at this
  simpa using this

theorem runL_wp (hX : X.Sound P) {r : Option Nat} {n : Nat} {Q : Exit → Act → World → Prop} : ∀ (m k : Nat) (s : St) (C : Cfg) (a : Act) (s' : St), k + m = ops.size → dstsOk N ops.toList = true → RelS C N s a → runL P X ops (ops.toList.drop k) s = some s' →
    (∀ C' a', RelS C' N s' a' → Grow C C' → Fr C C' → a'.defers = a.defers → Q .normal a' C'.w) → wpOpsIn (W r) n P ops Q (List.range' k m) a C.w
  | 0, k, s, C, a, s', hk, _, hr, h, hQ => by
    rw [List.drop_eq_nil_of_le (by simp; omega)] at h
    cases h
    exact hQ C a hr (.refl C) (.refl C) rfl
  | m + 1, k, s, C, a, s', hk, hN, hr, h, hQ => by
    have hlt : k < ops.size := by omega
    rw [List.range'_succ, wpOpsIn_cons]
    have hd : ops.toList.drop k = ops[k] :: ops.toList.drop (k + 1) := by
      rw [List.drop_eq_getElem_cons (by simpa using hlt)]; simp
    rw [hd] at h
    simp only [runL] at h
    split at h
    · cases h
    · rename_i rec hrec
      refine step_wp hX hr.valid (Array.getElem?_eq_getElem hlt) hrec (ev_rep hr.tmps) (fun _ _ => rfl) (fun b hb => wanted_rep (fun d _ => hr.tmps d) hb) (fun b _ => congrFun hr.h b) (fun g h1 _ hk => ?_) (fun C' v hv hst => ?_)
      · have := hr.K g hk
        have hge : rec.G = s.G := by
          unfold stepA at hrec
          split at hrec
          · cases hrec
          · cases hrec; rfl
          · split at hrec
            · cases hrec
            · cases hrec; rfl
        omega
      · refine runL_wp hX m (k + 1) _ C' _ s' (by omega) hN ?_ h fun C2 a2 h2 hg2 hf2 hd2 => hQ C2 a2 h2 (hst.grow.trans hg2) (hst.fr.trans hf2) (hd2.trans (defers_put a _ v))
        have hdst : ∀ t, ops[k].dst = some t → t < a.tmps.size := fun t ht => by rw [hr.size]; exact dstsOk_spec hN (by simp) ht
        refine ⟨hst.valid, ?_, fun t => ?_, by rw [size_put]; exact hr.size, by rw [defers_put]; exact hr.defers.fr hst.fr, fun g hg => ?_⟩
        · rw [hst.h, hget_app, hr.h]
        · rw [tget_app]
          exact tmps_put hst.grow hr.tmps hv hdst t
        · have hge : rec.G = s.G := by
            unfold stepA at hrec
            split at hrec
            · cases hrec
            · cases hrec; rfl
            · split at hrec
              · cases hrec
              · cases hrec; rfl
          have hG' := hst.G
          simp only [St.app]
          rcases hst.K g hg with h1 | ⟨_, h2⟩
          · have := hr.K g h1; omega
          · exact h2

/-- A region in text order. -/
theorem region_wp (hX : X.Sound P) {r : Option Nat} {n id : Nat} {s : St} {a : Act} {s' : St} {Q : Exit → Act → World → Prop} (hN : dstsOk N ops.toList = true) (hr : RelS C N s a) (h : runL P X ops ops.toList s = some s')
    (hQ : ∀ C' a', RelS C' N s' a' → Grow C C' → Fr C C' → a'.defers = a.defers → Q .normal a' C'.w) : (Code.region id ops false).wpIn (W r) n P Q a C.w :=
  wpIn_region (by rw [List.range_eq_range']; exact runL_wp hX ops.size 0 s C a s' (by simp) hN hr (by simpa using h) hQ)

end Go.AI

namespace Go.AI
variable {P : Program} {X : Ext} {ops : Array Oper} {C : Cfg} {N : Nat}

/-! ### Updates of which some are done -/
def ups {β : Type} (f : Nat → β) : List (Nat × β) → Nat → β
  | [] => f
  | (b, x) :: u => ups (setAt f b x) u

theorem hupd_ups : ∀ (u : List Upd) (h : Nat → Option AObj), hupd h u = ups h u
  | [], _ => rfl
  | (b, x) :: u, h => hupd_ups u (setAt h b x)

theorem ups_congr {β : Type} : ∀ (u : List (Nat × β)) (f g : Nat → β) (b : Nat), f b = g b → ups f u b = ups g u b
  | [], _, _, _, h => h
  | (c, x) :: u, f, g, b, h => ups_congr u _ _ b (by simp only [setAt]; split <;> first | rfl | exact h)

theorem ups_not {β : Type} : ∀ (u : List (Nat × β)) (f : Nat → β) (b : Nat), (∀ e ∈ u, e.1 ≠ b) → ups f u b = f b
  | [], _, _, _ => rfl
  | (c, x) :: u, f, b, h => by
    simp only [ups]
    rw [ups_not u _ b (fun e he => h e (List.mem_cons_of_mem _ he)), setAt_ne]
    exact fun e => h (c, x) List.mem_cons_self e.symm

def apF {β : Type} (φ : Nat → Bool) : List (List (Nat × β)) → (Nat → β) → Nat → β
  | [], f => f
  | u :: us, f => apF (fun j => φ (j + 1)) us (if φ 0 then ups f u else f)

theorem apF_agree {β : Type} : ∀ (us : List (List (Nat × β))) (φ ψ : Nat → Bool) (f g : Nat → β) (b : Nat), (∀ (j : Nat) u e, us[j]? = some u → e ∈ u → e.1 = b → φ j = ψ j) → f b = g b → apF φ us f b = apF ψ us g b
  | [], _, _, _, _, _, _, h => h
  | u :: us, φ, ψ, f, g, b, hφ, h => by
    simp only [apF]
    refine apF_agree us _ _ _ _ b (fun j u' e hj => hφ (j + 1) u' e hj) ?_
    by_cases hb : ∃ e ∈ u, e.1 = b
    · obtain ⟨e, he, hb⟩ := hb
      rw [hφ 0 u e rfl he hb]
      split
      · exact ups_congr u f g b h
      · exact h
    · have hn : ∀ e ∈ u, e.1 ≠ b := fun e he hb' => hb ⟨e, he, hb'⟩
      have h1 : ∀ f : Nat → β, ups f u b = f b := fun f => ups_not u f b hn
      split <;> split <;> simp only [h1, h]

theorem apF_not {β : Type} (us : List (List (Nat × β))) (φ : Nat → Bool) (f : Nat → β) (b : Nat) (h : ∀ (j : Nat) u e, us[j]? = some u → φ j = true → e ∈ u → e.1 ≠ b) : apF φ us f b = f b := by
  have h1 : apF φ us f b = apF (fun _ => false) us f b := apF_agree us φ _ f f b (fun j u e hj he hb => by
    cases hφ : φ j with
    | false => rfl
    | true => exact absurd hb (h j u e hj hφ he)) rfl
  rw [h1]
  clear h h1
  induction us generalizing f with
  | nil => rfl
  | cons u us ih => simp only [apF]; exact ih f

theorem apF_comm {β : Type} (us : List (List (Nat × β))) (ψ : Nat → Bool) (f : Nat → β) (u : List (Nat × β)) (h : ∀ (j : Nat) u' e e', us[j]? = some u' → ψ j = true → e ∈ u → e' ∈ u' → e'.1 ≠ e.1) (b : Nat) :
    apF ψ us (ups f u) b = ups (apF ψ us f) u b := by
  by_cases hb : ∃ e ∈ u, e.1 = b
  · obtain ⟨e, he, rfl⟩ := hb
    have hn : ∀ (j : Nat) u' e', us[j]? = some u' → ψ j = true → e' ∈ u' → e'.1 ≠ e.1 := fun j u' e' hj hψ he' => h j u' e e' hj hψ he he'
    rw [apF_not us ψ _ _ hn]
    exact ups_congr u _ _ _ (apF_not us ψ f _ hn).symm
  · have hn : ∀ e ∈ u, e.1 ≠ b := fun e he hb' => hb ⟨e, he, hb'⟩
    rw [ups_not u _ b hn]
    exact apF_agree us ψ ψ _ _ b (fun _ _ _ _ _ _ => rfl) (ups_not u f b hn)

theorem apF_set {β : Type} : ∀ (us : List (List (Nat × β))) (i : Nat) (φ : Nat → Bool) (f : Nat → β) (u : List (Nat × β)), us[i]? = some u → φ i = false →
    (∀ (j : Nat) u' e e', i < j → us[j]? = some u' → φ j = true → e ∈ u → e' ∈ u' → e'.1 ≠ e.1) → ∀ b, apF (fun j => if j = i then true else φ j) us f b = ups (apF φ us f) u b
  | [], _, _, _, _, h, _, _, _ => by simp at h
  | v :: us, 0, φ, f, u, h, h0, hd, b => by
    simp only [List.getElem?_cons_zero, Option.some.injEq] at h
    subst h
    simp only [apF, h0, if_true, Nat.add_one_ne_zero, if_false, Bool.false_eq_true]
    exact apF_comm us _ f v (fun j u' e e' hj hψ => hd (j + 1) u' e e' (by omega) hj hψ) b
  | v :: us, i + 1, φ, f, u, h, h0, hd, b => by
    simp only [apF]
    have := apF_set us i (fun j => φ (j + 1)) (if φ 0 then ups f v else f) u h h0 (fun j u' e e' hj hu hψ => hd (j + 1) u' e e' (by omega) hu hψ) b
    simpa using this

/-! ### The run in text order, its deeds kept -/
inductive Tr (P : Program) (X : Ext) (ops : Array Oper) : List Oper → St → List Rec → St → Prop
  | nil (s : St) : Tr P X ops [] s [] s
  | cons {o : Oper} {l : List Oper} {s s' : St} {r : Rec} {rs : List Rec} (h : stepA P X ops s o = some r) (hG : s.G ≤ r.d.G) (h' : Tr P X ops l (s.app o.dst r.d) rs s') : Tr P X ops (o :: l) s (r :: rs) s'

/-- The place that an operation writes. -/
def dstL (o : Oper) (v : AVal) : List (Nat × AVal) := match o.dst with | some d => [(d, v)] | none => []

def dstU : List Oper → List Rec → List (List (Nat × AVal))
  | o :: l, r :: rs => dstL o r.d.v :: dstU l rs
  | _, _ => []

def updU (rs : List Rec) : List (List Upd) := rs.map (·.d.upd)

theorem app_tget (s : St) (o : Oper) (r : Rec) : tget (s.app o.dst r.d).tmps = ups (tget s.tmps) (dstL o r.d.v) := by
  funext t
  rw [tget_app]
  unfold dstL
  cases o.dst with
  | none => rfl
  | some d =>
    simp only [ups, setAt, Option.some.injEq]
    by_cases h : d = t
    · subst h; simp
    · rw [if_neg h, if_neg (Ne.symm h)]

theorem stepA_G {s : St} {o : Oper} {r : Rec} (h : stepA P X ops s o = some r) : r.G = s.G := by
  unfold stepA at h
  split at h
  · cases h
  · cases h; rfl
  · split at h
    · cases h
    · cases h; rfl

theorem Tr.mono {l : List Oper} {s s' : St} {rs : List Rec} (h : Tr P X ops l s rs s') : s.G ≤ s'.G := by
  induction h with
  | nil => exact Nat.le_refl _
  | cons _ hG _ ih => exact Nat.le_trans hG ih

theorem Tr.length {l : List Oper} {s s' : St} {rs : List Rec} (h : Tr P X ops l s rs s') : rs.length = l.length := by
  induction h with
  | nil => rfl
  | cons _ _ _ ih => simp [ih]

theorem Tr.end_tmps {l : List Oper} {s s' : St} {rs : List Rec} (h : Tr P X ops l s rs s') : tget s'.tmps = apF (fun _ => true) (dstU l rs) (tget s.tmps) := by
  induction h with
  | nil => rfl
  | cons _ _ _ ih => rw [ih, app_tget]; rfl

theorem Tr.end_heap {l : List Oper} {s s' : St} {rs : List Rec} (h : Tr P X ops l s rs s') : hget s'.heap = apF (fun _ => true) (updU rs) (hget s.heap) := by
  induction h with
  | nil => rfl
  | cons _ _ _ ih => rw [ih, hget_app, hupd_ups]; rfl

theorem lt_zero_false : (fun j => decide (j < 0)) = fun _ => false := by funext j; simp
theorem apF_none {β : Type} (us : List (List (Nat × β))) (f : Nat → β) : apF (fun _ => false) us f = f := by
  induction us generalizing f with
  | nil => rfl
  | cons u us ih => simp only [apF]; exact ih f

theorem Tr.at {l : List Oper} {s s' : St} {rs : List Rec} (h : Tr P X ops l s rs s') : ∀ {i : Nat} {o : Oper}, l[i]? = some o → ∃ si r, rs[i]? = some r ∧ stepA P X ops si o = some r ∧
    tget si.tmps = apF (fun j => decide (j < i)) (dstU l rs) (tget s.tmps) ∧ hget si.heap = apF (fun j => decide (j < i)) (updU rs) (hget s.heap) ∧ s.G ≤ r.G ∧ r.d.G ≤ s'.G := by
  induction h with
  | nil => intro i o hi; simp at hi
  | @cons o0 l s s' r rs h hG h' ih =>
    intro i o hi
    cases i with
    | zero =>
      simp only [List.getElem?_cons_zero, Option.some.injEq] at hi
      subst hi
      refine ⟨s, r, rfl, h, ?_, ?_, by rw [stepA_G h]; exact Nat.le_refl _, h'.mono⟩
      · rw [lt_zero_false, apF_none]
      · rw [lt_zero_false, apF_none]
    | succ i =>
      obtain ⟨si, ri, h1, h2, h3, h4, h5, h6⟩ := ih hi
      refine ⟨si, ri, h1, h2, ?_, ?_, Nat.le_trans hG h5, h6⟩
      · rw [h3, app_tget]
        simp only [dstU, apF, Nat.add_lt_add_iff_right, Nat.zero_lt_succ, decide_true, if_true]
      · rw [h4, hget_app, hupd_ups]
        simp only [updU, List.map_cons, apF, Nat.add_lt_add_iff_right, Nat.zero_lt_succ, decide_true, if_true]

theorem Tr.gens {l : List Oper} {s s' : St} {rs : List Rec} (h : Tr P X ops l s rs s') : ∀ {i j : Nat} {r r' : Rec}, i < j → rs[i]? = some r → rs[j]? = some r' → r.d.G ≤ r'.G := by
  induction h with
  | nil => intro i j r r' _ hi; simp at hi
  | @cons o0 l s s' r0 rs h hG h' ih =>
    intro i j r r' hij hi hj
    cases j with
    | zero => omega
    | succ j =>
      cases i with
      | zero =>
        simp only [List.getElem?_cons_zero, Option.some.injEq] at hi
        subst hi
        have hj' : rs[j]? = some r' := by simpa using hj
        have hlt : j < l.length := by rw [← h'.length]; exact (List.getElem?_eq_some_iff.1 hj').1
        obtain ⟨_, r2, h1, _, _, _, h5, _⟩ := h'.at (List.getElem?_eq_getElem hlt)
        rw [h1] at hj'
        cases hj'
        exact h5
      | succ i => exact ih (by omega) hi hj

/-! ### Who stands before whom -/
def preds (o : Oper) : List Nat := (o.after.toList.filter (Region.binds .any)).map (·.on)

def mask (acc : List Nat) : List Nat → Nat
  | [] => 0
  | e :: l => 1 <<< e ||| acc.getD e 0 ||| mask acc l

def ancs : List Oper → List Nat → List Nat
  | [], acc => acc
  | o :: l, acc => ancs l (acc ++ [mask acc (preds o)])

theorem mask_bit (acc : List Nat) (i : Nat) : ∀ (l : List Nat), (mask acc l).testBit i = true → ∃ e ∈ l, i = e ∨ (acc.getD e 0).testBit i = true
  | [], h => by simp [mask] at h
  | e :: l, h => by
    simp only [mask, Nat.testBit_or, Bool.or_eq_true] at h
    rcases h with (h | h) | h
    · refine ⟨e, List.mem_cons_self, .inl ?_⟩
      rw [Nat.one_shiftLeft, Nat.testBit_two_pow] at h
      simpa using (of_decide_eq_true h).symm
    · exact ⟨e, List.mem_cons_self, .inr h⟩
    · obtain ⟨e', he', hb⟩ := mask_bit acc i l h
      exact ⟨e', List.mem_cons_of_mem _ he', hb⟩

theorem ancs_spec {φ : Nat → Bool} (hc : ∀ (j : Nat) o, ops[j]? = some o → φ j = true → ∀ e ∈ preds o, φ e = true) (i : Nat) : ∀ (l : List Oper) (acc : List Nat),
    (∀ (j : Nat) o, ops[acc.length + j]? = some o ↔ l[j]? = some o) →
    (∀ (j : Nat) o, j < acc.length → ops[j]? = some o → (∀ e ∈ preds o, φ e = true) → (acc.getD j 0).testBit i = true → φ i = true) →
    ∀ (j : Nat) o, ops[j]? = some o → (∀ e ∈ preds o, φ e = true) → ((ancs l acc).getD j 0).testBit i = true → φ i = true
  | [], acc, hl, hacc => by
    intro j o ho hp hb
    by_cases hj : j < acc.length
    · exact hacc j o hj ho hp hb
    · simp only [ancs] at hb
      rw [List.getD_eq_getElem?_getD, List.getElem?_eq_none (by omega)] at hb
      simp at hb
  | o0 :: l, acc, hl, hacc => by
    simp only [ancs]
    refine ancs_spec hc i l _ (fun j o => ?_) (fun j o hj ho hp hb => ?_)
    · have := hl (j + 1) o
      simp only [List.length_append, List.length_cons, List.length_nil, List.getElem?_cons_succ] at this ⊢
      rw [← this]
      have : acc.length + (0 + 1) + j = acc.length + (j + 1) := by omega
      rw [this]
    · simp only [List.length_append, List.length_cons, List.length_nil] at hj
      by_cases hj' : j < acc.length
      · refine hacc j o hj' ho hp ?_
        rwa [List.getD_eq_getElem?_getD, List.getElem?_append_left hj', ← List.getD_eq_getElem?_getD] at hb
      · have hje : j = acc.length := by omega
        subst hje
        have h0 := (hl 0 o).1 (by simpa using ho)
        simp only [List.getElem?_cons_zero, Option.some.injEq] at h0
        subst h0
        rw [List.getD_eq_getElem?_getD, List.getElem?_append_right (Nat.le_refl _)] at hb
        simp only [Nat.sub_self, List.getElem?_cons_zero, Option.getD_some] at hb
        obtain ⟨e, he, hb⟩ := mask_bit _ _ _ hb
        rcases hb with rfl | hb
        · exact hp _ he
        · have hφe := hp e he
          by_cases hel : e < acc.length
          · cases hoe : ops[e]? with
            | none =>
              have : ops.size ≤ e := by simpa using hoe
              have hlt : acc.length < ops.size := (Array.getElem?_eq_some_iff.1 ho).1
              omega
            | some oe => exact hacc e oe hel hoe (hc e oe hoe hφe) hb
          · rw [List.getD_eq_getElem?_getD, List.getElem?_eq_none (by omega)] at hb
            simp at hb

/-- Pairs that no edge orders. -/
def ordd (M : List Nat) (i j : Nat) : Bool := (M.getD j 0).testBit i

def drawOk (ops : Array Oper) : Bool :=
  let M := ancs ops.toList []
  (List.range ops.size).all fun j => match ops[j]? with
    | none => false
    | some oj => (preds oj).all (fun e => decide (e < j)) && (List.range j).all fun i => match ops[i]? with
      | none => false
      | some oi => ordd M i j || oi.apart ops oj

/-- Operations that touch no block. -/
def calm (o : Oper) : Bool :=
  match o.op with
  | .move _ | .assign _ | .pick _ _ _ | .extract _ _ | .unOp _ _ _ | .makeFunc _ _ _ | .convert _ _ _ | .build _ _ => true
  | _ => false

def loose (ops : Array Oper) : List (Nat × Nat) :=
  let M := ancs ops.toList []
  (List.range ops.size).flatMap fun j => match ops[j]? with
    | none => []
    | some oj => if calm oj then [] else (List.range j).filterMap fun i => match ops[i]? with
      | none => none
      | some oi => if calm oi || ordd M i j then none else some (i, j)

structure Disj (r r' : Rec) : Prop where
  wr : ∀ e ∈ r.d.upd, e.1 ∉ r'.rs
  rw : ∀ e ∈ r'.d.upd, e.1 ∉ r.rs
  ww : ∀ e ∈ r.d.upd, ∀ e' ∈ r'.d.upd, e'.1 ≠ e.1

def looseOk (rs : List Rec) (l : List (Nat × Nat)) : Prop := ∀ p ∈ l, ∀ r r', rs[p.1]? = some r → rs[p.2]? = some r' → Disj r r'

theorem calm_quiet {o : Oper} (hc : calm o = true) {s : St} {r : Rec} (h : stepA P X ops s o = some r) : r.rs = [] ∧ r.d.upd = [] := by
  unfold stepA at h
  split at h
  · cases h
  · cases h; exact ⟨rfl, rfl⟩
  · have key : ∀ {ρ : Operand → AVal} {nx G : Nat} {h : Nat → Option AObj} {d : Delta}, (opR P X ρ nx G o).run h = some d → (opR P X ρ nx G o).reads h = [] ∧ d.upd = [] := by
      intro ρ nx G h d hd
      unfold opR at hd ⊢
      unfold calm at hc
      have hv : ∀ {a : AVal} {d : Delta}, (valR nx G a).run h = some d → (valR nx G a).reads h = [] ∧ d.upd = [] := fun {a d} h => by
        have := rd_val h
        subst this
        exact ⟨rfl, rfl⟩
      have hfl : ∀ {d : Delta}, (Rd.fail : Rd Delta).run h = some d → (Rd.fail : Rd Delta).reads h = [] ∧ d.upd = [] := fun h => (rd_fail h).elim
      have hop : ∀ {α : Type} {x : Option α} {k : α → Rd Delta} {d : Delta}, (ofOpt x k).run h = some d → (∀ a d, (k a).run h = some d → (k a).reads h = [] ∧ d.upd = []) → (ofOpt x k).reads h = [] ∧ d.upd = [] := by
        intro α x k d hr hk
        cases x with
        | none => exact (rd_fail hr).elim
        | some a => exact hk a d hr
      cases ho : o.op <;> simp only [ho] at hd hc ⊢ <;> try (simp at hc; done)
      case move => exact hv hd
      case assign => exact hv hd
      case pick => split at hd <;> first | exact hv hd | exact hfl hd
      case build =>
        unfold buildR at hd ⊢
        refine hop hd fun ti d hd => ?_
        split at hd
        · exact hop hd fun _ d hd => hop hd fun _ d hd => hv hd
        · exact hop hd fun _ d hd => hop hd fun _ d hd => hv hd
        · exact hfl hd
      case unOp => exact hop hd fun _ d hd => hv hd
      case convert =>
        unfold convertR at hd ⊢
        refine hop hd fun _ d hd => hop hd fun _ d hd => ?_
        split at hd <;> first | exact hv hd | exact hfl hd
      case makeFunc => exact hv hd
      case extract =>
        split at hd
        · exact hop hd fun _ d hd => hv hd
        · exact hfl hd
    split at h
    · cases h
    · rename_i d hd
      cases h
      exact key hd

end Go.AI

namespace Go.AI
variable {P : Program} {X : Ext} {ops : Array Oper} {N : Nat}

theorem drawOk_spec (h : drawOk ops = true) : (∀ (j : Nat) o, ops[j]? = some o → ∀ e ∈ preds o, e < j) ∧
    ∀ (i j : Nat) oi oj, i < j → ops[i]? = some oi → ops[j]? = some oj → ordd (ancs ops.toList []) i j = true ∨ oi.apart ops oj = true := by
  simp only [drawOk, List.all_eq_true, List.mem_range] at h
  refine ⟨fun j o hj e he => ?_, fun i j oi oj hij hi hj => ?_⟩
  · have := h j (Array.getElem?_eq_some_iff.1 hj).1
    rw [hj] at this
    simp only [Bool.and_eq_true, List.all_eq_true, decide_eq_true_eq] at this
    exact this.1 e he
  · have := h j (Array.getElem?_eq_some_iff.1 hj).1
    rw [hj] at this
    simp only [Bool.and_eq_true, List.all_eq_true, List.mem_range] at this
    have := this.2 i hij
    rw [hi] at this
    simpa using this

theorem loose_spec {i j : Nat} {oi oj : Oper} (hij : i < j) (hi : ops[i]? = some oi) (hj : ops[j]? = some oj) (hn : ordd (ancs ops.toList []) i j = false) (hci : calm oi = false) (hcj : calm oj = false) : (i, j) ∈ loose ops := by
  simp only [loose, List.mem_flatMap, List.mem_range]
  refine ⟨j, (Array.getElem?_eq_some_iff.1 hj).1, ?_⟩
  rw [hj]
  simp only [hcj, Bool.false_eq_true, if_false, List.mem_filterMap, List.mem_range]
  refine ⟨i, hij, ?_⟩
  rw [hi]
  simp [hci, hn]

/-! ### Another world, the same heap -/
def Cfg.at (C : Cfg) (w : World) : Cfg := { C with w := w }

theorem at_grow {C : Cfg} {w : World} (h : w.heap = C.w.heap) : Grow C (C.at w) := by
  have hc : ∀ (B o : Nat), w.cell? ⟨B, o, none⟩ = C.w.cell? ⟨B, o, none⟩ := fun B o => cell?_of_heap (by rw [h])
  refine ⟨fun _ h => h, fun b x hx _ => ⟨x, hx, rfl, sameKind_refl x⟩, fun B o v hcell hs => ⟨(hc B o).trans hcell, hs⟩, fun B ents clock hb hs => ⟨?_, hs⟩, fun B x hx => ?_⟩
  · show w.heap[B]? = _
    rw [h]; exact hb
  · show w.shape? B = _
    rw [shape?_of_heap (w := C.w) (by rw [h])]; exact hx

theorem at_valid {C : Cfg} {w : World} (hv : Valid C) (h : w.heap = C.w.heap) : Valid (C.at w) := by
  have hg := at_grow h
  refine ⟨fun b x hx => ?_, hv.inj, fun b x B s hx hi => by show B < w.heap.size; rw [h]; exact hv.old b x B s hx hi, fun B o hf => ?_⟩
  · have := hv.obj b x hx
    cases x with
    | row sz es g wr =>
      obtain ⟨h1, h2, h3⟩ := this
      refine ⟨h1, h2, h3.imp id fun ⟨B, s, c, T, hi, hb, hle, hc⟩ => ⟨B, s, c, T, hi, ?_, hle, fun i j e a hi' hj => let ⟨v, h4, h5⟩ := hc i j e a hi' hj; ⟨v, h4, hg.rep h5⟩⟩⟩
      show w.heap[B]? = _
      rw [h]; exact hb
    | map es g v =>
      obtain ⟨h1, B, ents, clock, hi, hb, hl, hkv, hborn, hclk⟩ := this
      refine ⟨h1, B, ents, clock, hi, ?_, hl, fun i k v e hi' he => let ⟨h4, h5⟩ := hkv i k v e hi' he; ⟨hg.rep h4, hg.rep h5⟩, hborn, hclk⟩
      show w.heap[B]? = _
      rw [h]; exact hb
  · obtain ⟨h1, h2⟩ := hv.forb B o hf
    exact ⟨by show B < w.heap.size; rw [h]; exact h1, h2⟩

theorem at_fr {C : Cfg} {w : World} (h : w.heap = C.w.heap) (hos : w.os = C.w.os) (ht : w.tape = C.w.tape) (ho : w.output = C.w.output) : Fr C (C.at w) :=
  ⟨Nat.le_of_eq (by show C.w.heap.size = w.heap.size; rw [h]), fun B _ _ => (by show w.heap[B]? = _; rw [h]), fun B hb => .inl hb, hos, ht, ho, rfl⟩

theorem at_rel {C : Cfg} {w : World} {s : St} {a : Act} (h : w.heap = C.w.heap) (hos : w.os = C.w.os) (ht : w.tape = C.w.tape) (ho : w.output = C.w.output) (hr : RelS C N s a) : RelS (C.at w) N s a :=
  ⟨at_valid hr.valid h, hr.h, fun t => (at_grow h).rep (hr.tmps t), hr.size, hr.defers.fr (at_fr h hos ht ho), hr.K⟩

/-! ### The walk -/
def evF (f : Nat → AVal) : Operand → AVal
  | .tmp t => f t
  | .const v => ofVal v
  | .func g => .fn (.func g) [] []
  | .global _ => .undef

theorem ev_evF (s : St) (x : Operand) : s.ev x = evF (tget s.tmps) x := by cases x <;> rfl

theorem evF_rep {C : Cfg} {f : Nat → AVal} {a : Act} (h : ∀ t, VRep C (f t) (a.tmps.getD t undef)) (x : Operand) : VRep C (evF f x) (a.eval x) := by
  cases x with
  | tmp t => exact h t
  | const v => exact ofVal_rep v
  | func f => exact .fn _ [] [] #[] #[] rfl rfl (by simp) (by simp)
  | global g => exact .undef _

structure RelD (ops : Array Oper) (N : Nat) (s0 : St) (recs : List Rec) (C0 : Cfg) (D0 : List Deferred) (φ : Nat → Bool) (C : Cfg) (a : Act) : Prop where
  valid : Valid C
  h : C.h = apF φ (updU recs) (hget s0.heap)
  tmps : ∀ t, VRep C (apF φ (dstU ops.toList recs) (tget s0.tmps) t) (a.tmps.getD t undef)
  size : a.tmps.size = N
  defers : a.defers = D0
  K : ∀ g, C.K g → g < s0.G ∨ ∃ j r, φ j = true ∧ recs[j]? = some r ∧ r.G ≤ g ∧ g < r.d.G
  grow : Grow C0 C
  fr : Fr C0 C

theorem dstU_get : ∀ {l : List Oper} {rs : List Rec} {j : Nat} {u : List (Nat × AVal)}, (dstU l rs)[j]? = some u → ∃ o r, l[j]? = some o ∧ rs[j]? = some r ∧ u = (dstL o r.d.v)
  | o :: l, r :: rs, 0, u, h => ⟨o, r, rfl, rfl, by simpa [dstU] using h.symm⟩
  | o :: l, r :: rs, j + 1, u, h => dstU_get (l := l) (rs := rs) (j := j) (by simpa [dstU] using h)
  | [], _, _, _, h => by simp [dstU] at h
  | _ :: _, [], _, _, h => by simp [dstU] at h

theorem dstU_at : ∀ {l : List Oper} {rs : List Rec} {j : Nat} {o : Oper} {r : Rec}, l[j]? = some o → rs[j]? = some r → (dstU l rs)[j]? = some (dstL o r.d.v)
  | o :: l, r :: rs, 0, _, _, h, h' => by
    simp only [List.getElem?_cons_zero, Option.some.injEq] at h h'
    subst h; subst h'; rfl
  | o :: l, r :: rs, j + 1, _, _, h, h' => by
    simp only [List.getElem?_cons_succ] at h h'
    simp only [dstU, List.getElem?_cons_succ]
    exact dstU_at h h'
  | [], _, _, _, _, h, _ => by simp at h
  | _ :: _, [], _, _, _, _, h => by simp at h

theorem countP_lt {α : Type} {p q : α → Bool} (hpq : ∀ x, p x = true → q x = true) : ∀ {l : List α} {x : α}, x ∈ l → q x = true → p x = false → l.countP p < l.countP q
  | [], _, h, _, _ => by cases h
  | y :: l, x, h, hq, hp => by
    have hle : l.countP p ≤ l.countP q := List.countP_mono_left fun z _ hz => hpq z hz
    simp only [List.countP_cons]
    rcases List.mem_cons.1 h with rfl | h
    · rw [hq, hp]; simp; omega
    · have ih := countP_lt hpq h hq hp
      cases hpy : p y with
      | true => rw [hpq y hpy]; simp; omega
      | false => cases q y <;> simp <;> omega

theorem drawn_go (hX : X.Sound P) (hok : drawOk ops = true) (hN : dstsOk N ops.toList = true) {s0 s' : St} {recs : List Rec} (tr : Tr P X ops ops.toList s0 recs s') (hl : looseOk recs (loose ops)) {C0 : Cfg} {D0 : List Deferred} (hM : Marks C0 D0) {r0 : Option Nat} {n : Nat} {Q : Exit → Act → World → Prop}
    (hQ : ∀ C' a', RelS C' N s' a' → Grow C0 C' → Fr C0 C' → a'.defers = D0 → Q .normal a' C'.w) : ∀ (fuel : Nat) (listed : Array Bool) (C : Cfg) (a : Act), listed.size = ops.size →
    (∀ (j : Nat) o, ops[j]? = some o → listed.getD j false = true → ∀ e ∈ preds o, listed.getD e false = true) → (List.range ops.size).countP (fun j => !listed.getD j false) ≤ fuel →
    RelD ops N s0 recs C0 D0 (fun j => listed.getD j false) C a → wpAnyIn (W r0) n P .any ops Q fuel listed a C.w := by
  obtain ⟨hpre, hap⟩ := drawOk_spec hok
  -- at the end
  have fin : ∀ (listed : Array Bool) (C : Cfg) (a : Act), listed.size = ops.size → RelD ops N s0 recs C0 D0 (fun j => listed.getD j false) C a → Region.ready .any ops listed = [] → Q .normal a C.w := by
    intro listed C a hsz hr hready
    have hall : ∀ m j, j < m → j < ops.size → listed.getD j false = true := by
      intro m
      induction m with
      | zero => intro j h; omega
      | succ m ih =>
        intro j hj hjs
        by_cases hjm : j < m
        · exact ih j hjm hjs
        · have : j = m := by omega
          subst this
          cases hlj : listed.getD j false with
          | true => rfl
          | false =>
            have : j ∈ Region.ready .any ops listed := by
              rw [mem_ready]
              have hjl : j < listed.size := by omega
              refine ⟨by simpa [hjl] using hlj, ops[j], Array.getElem?_eq_getElem hjs, fun e he hb => ?_⟩
              have hmem : e.on ∈ preds ops[j] := List.mem_map.2 ⟨e, List.mem_filter.2 ⟨by simpa using he, hb⟩, rfl⟩
              have hlt := hpre j _ (Array.getElem?_eq_getElem hjs) e.on hmem
              exact ih e.on hlt (by omega)
            rw [hready] at this
            cases this
    have hlen : recs.length = ops.size := by rw [tr.length]; simp
    refine hQ C a ⟨hr.valid, ?_, fun t => ?_, hr.size, by rw [hr.defers]; exact hM.fr hr.fr, fun g hg => ?_⟩ hr.grow hr.fr hr.defers
    · rw [hr.h, tr.end_heap]
      funext b
      refine apF_agree _ _ _ _ _ b (fun j u e hj _ _ => ?_) rfl
      have : j < (updU recs).length := (List.getElem?_eq_some_iff.1 hj).1
      exact hall (j + 1) j (by omega) (by simp [updU] at this; omega)
    · have := hr.tmps t
      rw [tr.end_tmps]
      rwa [apF_agree _ (fun _ => true) (fun j => listed.getD j false) _ (tget s0.tmps) t (fun j u e hj _ _ => ?_) rfl]
      obtain ⟨o, r, ho, _⟩ := dstU_get hj
      have : j < ops.toList.length := (List.getElem?_eq_some_iff.1 ho).1
      exact (hall (j + 1) j (by omega) (by simpa using this)).symm
    · rcases hr.K g hg with h1 | ⟨j, r, _, hrj, _, h3⟩
      · have := tr.mono; omega
      · have hj : j < ops.toList.length := by rw [← tr.length]; exact (List.getElem?_eq_some_iff.1 hrj).1
        obtain ⟨_, r2, h1, _, _, _, _, h6⟩ := tr.at (List.getElem?_eq_getElem hj)
        rw [h1] at hrj
        cases hrj
        omega
  intro fuel
  induction fuel with
  | zero =>
    intro listed C a hsz hcl hcnt hr
    have hr0 : Region.ready .any ops listed = [] := by
      rw [List.eq_nil_iff_forall_not_mem]
      intro j hj
      rw [mem_ready] at hj
      obtain ⟨hlj, o, ho, _⟩ := hj
      have hjs : j < ops.size := (Array.getElem?_eq_some_iff.1 ho).1
      have hpos : 0 < (List.range ops.size).countP (fun j => !listed.getD j false) := List.countP_pos_iff.2 ⟨j, List.mem_range.2 hjs, by
        have hjl : j < listed.size := by omega
        simp [hjl] at hlj ⊢
        exact hlj⟩
      omega
    exact ⟨hr0, fin listed C a hsz hr hr0⟩
  | succ fuel ih =>
    intro listed C a hsz hcl hcnt hr
    refine ⟨fin listed C a hsz hr, fun i hi => ?_⟩
    rw [mem_ready] at hi
    obtain ⟨hli, oi, hoi, hpi⟩ := hi
    have his : i < ops.size := (Array.getElem?_eq_some_iff.1 hoi).1
    have hil : i < listed.size := by omega
    have hφi : listed.getD i false = false := by simp [hil] at hli ⊢; exact hli
    have hpreds : ∀ e ∈ preds oi, listed.getD e false = true := by
      intro e he
      obtain ⟨ed, hed, rfl⟩ := List.mem_map.1 he
      obtain ⟨h1, h2⟩ := List.mem_filter.1 hed
      exact hpi ed (by simpa using h1) h2
    have hoiL : ops.toList[i]? = some oi := by simpa using hoi
    obtain ⟨si, ri, hri, hst, htm, hhp, hG0, hG1⟩ := tr.at hoiL
    have hanc := fun (x : Nat) => ancs_spec (ops := ops) (φ := fun j => listed.getD j false) hcl x ops.toList [] (by simp) (by simp)
    -- whoever stands on the other side of i than the text says is unordered with it
    have side : ∀ j oj, ops[j]? = some oj → decide (j < i) = listed.getD j false ∨ (j < i ∧ ordd (ancs ops.toList []) j i = false) ∨ (i < j ∧ ordd (ancs ops.toList []) i j = false) := by
      intro j oj hoj
      rcases Nat.lt_trichotomy j i with hlt | heq | hgt
      · cases ho : ordd (ancs ops.toList []) j i with
        | false => exact .inr (.inl ⟨hlt, rfl⟩)
        | true =>
          have := hanc j i oi hoi hpreds ho
          exact .inl (by simp only [hlt, decide_true]; exact this.symm)
      · subst heq
        exact .inl (by rw [hφi]; simp)
      · cases ho : ordd (ancs ops.toList []) i j with
        | false => exact .inr (.inr ⟨hgt, rfl⟩)
        | true =>
          refine .inl ?_
          have hn : ¬ j < i := by omega
          simp only [hn, decide_false]
          cases hlj : listed.getD j false with
          | false => rfl
          | true =>
            have := hanc i j oj hoj (hcl j oj hoj hlj) ho
            rw [hφi] at this
            cases this
    -- places that are looked at
    have look : ∀ t ∈ oi.looksAt ops, tget si.tmps t = apF (fun j => listed.getD j false) (dstU ops.toList recs) (tget s0.tmps) t := by
      intro t ht
      rw [htm]
      refine apF_agree _ _ _ _ _ t (fun j u e hj he het => ?_) rfl
      obtain ⟨oj, rj, hoj, hrj, hu⟩ := dstU_get hj
      have hoj' : ops[j]? = some oj := by simpa using hoj
      have hdst : oj.dst = some t := by
        subst hu
        unfold dstL at he
        cases hd : oj.dst with
        | none => rw [hd] at he; cases he
        | some d =>
          rw [hd] at he
          simp only [List.mem_singleton] at he
          subst he
          exact congrArg some het
      rcases side j oj hoj' with h1 | ⟨h1, h2⟩ | ⟨h1, h2⟩
      · exact h1
      · rcases hap j i oj oi h1 hoj' hoi with h3 | h3
        · rw [h2] at h3; cases h3
        · exact absurd ht ((Oper.apart_spec h3).1 t hdst)
      · rcases hap i j oi oj h1 hoi hoj' with h3 | h3
        · rw [h2] at h3; cases h3
        · exact absurd ht ((Oper.apart_spec h3).2.2 t hdst)
    -- blocks
    have apartRec : ∀ j oj rj, ops[j]? = some oj → recs[j]? = some rj → (j < i ∧ ordd (ancs ops.toList []) j i = false) ∨ (i < j ∧ ordd (ancs ops.toList []) i j = false) → Disj rj ri := by
      intro j oj rj hoj hrj hside
      have hsj : ∃ sj, stepA P X ops sj oj = some rj := by
        have hojL : ops.toList[j]? = some oj := by simpa using hoj
        obtain ⟨sj, r2, h1, h2, _⟩ := tr.at hojL
        rw [h1] at hrj
        cases hrj
        exact ⟨sj, h2⟩
      obtain ⟨sj, hsj⟩ := hsj
      by_cases hci : calm oi = true
      · obtain ⟨h1, h2⟩ := calm_quiet hci hst
        exact ⟨by rw [h1]; simp, by rw [h2]; simp, by rw [h2]; simp⟩
      by_cases hcj : calm oj = true
      · obtain ⟨h1, h2⟩ := calm_quiet hcj hsj
        exact ⟨by rw [h2]; simp, by rw [h1]; simp, by rw [h2]; simp⟩
      simp only [Bool.not_eq_true] at hci hcj
      rcases hside with ⟨h1, h2⟩ | ⟨h1, h2⟩
      · exact hl (j, i) (loose_spec h1 hoj hoi h2 hcj hci) rj ri hrj hri
      · have := hl (i, j) (loose_spec h1 hoi hoj h2 hci hcj) ri rj hri hrj
        exact ⟨this.rw, this.wr, fun e he e' he' => (this.ww e' he' e he).symm⟩
    have hset : ∀ j, ((listed.setIfInBounds i true).getD j false) = if j = i then true else listed.getD j false := by
      intro j
      by_cases hji : j = i
      · subst hji; simp [hil]
      · rw [if_neg hji, getD_set_ne false (Ne.symm hji)]
    have hφ' : (fun j => (listed.setIfInBounds i true).getD j false) = fun j => if j = i then true else listed.getD j false := funext hset
    refine step_wp hX hr.valid hoi hst (evF_rep hr.tmps) (fun x hx => ?_) (fun b hb => ?_) (fun b hb => ?_) (fun g h1 h2 hk => ?_) (fun C' v hv hs => ?_)
    · -- operands
      cases x with
      | tmp t =>
        refine look t ?_
        simp only [Oper.looksAt, List.mem_append, List.mem_filterMap]
        exact .inl ⟨.tmp t, by simpa using hx, rfl⟩
      | const v => rfl
      | func f => rfl
      | global g => rfl
    · exact wanted_rep (fun d hd => by rw [look d hd]; exact hr.tmps d) hb
    · rw [hr.h, hhp]
      refine (apF_agree _ _ _ _ _ b (fun j u e hj he heb => ?_) rfl).symm
      simp only [updU, List.getElem?_map, Option.map_eq_some_iff] at hj
      obtain ⟨rj, hrj, rfl⟩ := hj
      have hjl : j < ops.size := by
        have := (List.getElem?_eq_some_iff.1 hrj).1
        rw [tr.length] at this
        simpa using this
      have hoj : ops[j]? = some ops[j] := Array.getElem?_eq_getElem hjl
      rcases side j _ hoj with h1 | h1
      · exact h1
      · have := apartRec j _ rj hoj hrj h1
        exact absurd hb (by rw [← heb]; exact this.wr e he)
    · rcases hr.K g hk with h3 | ⟨j, rj, hφj, hrj, h4, h5⟩
      · omega
      · rcases Nat.lt_trichotomy j i with hlt | heq | hgt
        · have := tr.gens hlt hrj hri; omega
        · subst heq
          rw [hφi] at hφj; cases hφj
        · have := tr.gens hgt hri hrj; omega
    · refine ih _ C' _ (by simpa using hsz) (fun j o ho hlj e he => ?_) ?_ ?_
      · by_cases hji : j = i
        · subst hji
          rw [hoi] at ho
          cases ho
          exact getD_set_true (hpreds e he)
        · rw [getD_set_ne false (Ne.symm hji)] at hlj
          exact getD_set_true (hcl j o ho hlj e he)
      · have hlt := countP_lt (p := fun j => !(listed.setIfInBounds i true).getD j false) (q := fun j => !listed.getD j false) (fun x hx => by
          cases hlx : listed.getD x false with
          | false => rfl
          | true => rw [getD_set_true hlx] at hx; cases hx) (List.mem_range.2 his) (by rw [hφi]; rfl) (by rw [hset]; simp)
        omega
      · rw [hφ']
        have hgr := hr.grow.trans hs.grow
        have hroom : ∀ d, oi.dst = some d → d < a.tmps.size := fun d hd => by rw [hr.size]; exact dstsOk_spec hN (by simpa using Array.mem_of_getElem? hoi) hd
        refine ⟨hs.valid, ?_, fun t => ?_, by rw [size_put]; exact hr.size, by rw [defers_put]; exact hr.defers, fun g hg => ?_, hgr, hr.fr.trans hs.fr⟩
        · rw [hs.h, hr.h, hupd_ups]
          funext b
          refine (apF_set (updU recs) i _ _ ri.d.upd (by simp [updU, hri]) hφi (fun j u' e e' hij hj hφj he he' => ?_) b).symm
          simp only [updU, List.getElem?_map, Option.map_eq_some_iff] at hj
          obtain ⟨rj, hrj, rfl⟩ := hj
          have hjl : j < ops.size := by
            have := (List.getElem?_eq_some_iff.1 hrj).1
            rw [tr.length] at this
            simpa using this
          have hoj : ops[j]? = some ops[j] := Array.getElem?_eq_getElem hjl
          rcases side j _ hoj with h1 | h1
          · have hn : ¬ j < i := by omega
            simp only [hn, decide_false] at h1
            rw [← h1] at hφj
            cases hφj
          · exact fun h => (apartRec j _ rj hoj hrj h1).ww e' he' e he h.symm
        · have key := apF_set (dstU ops.toList recs) i (fun j => listed.getD j false) (tget s0.tmps) _ (dstU_at hoiL hri) hφi (fun j u' e e' hij hj hφj he he' => ?_) t
          · rw [key]
            have := tmps_put hs.grow hr.tmps hv hroom t
            unfold dstL
            cases hd : oi.dst with
            | none => simpa [hd, ups] using this
            | some d =>
              rw [hd] at this
              simp only [ups, setAt]
              by_cases hdt : t = d
              · subst hdt; simpa using this
              · rw [if_neg hdt]
                rwa [if_neg (by intro h; exact hdt (Option.some.inj h).symm)] at this
          · obtain ⟨oj, rj, hoj, hrj, hu⟩ := dstU_get hj
            have hoj' : ops[j]? = some oj := by simpa using hoj
            subst hu
            unfold dstL at he he'
            cases hdi : oi.dst with
            | none => rw [hdi] at he; cases he
            | some d =>
              cases hdj : oj.dst with
              | none => rw [hdj] at he'; cases he'
              | some d' =>
                rw [hdi] at he; rw [hdj] at he'
                simp only [List.mem_singleton] at he he'
                subst he; subst he'
                rcases side j oj hoj' with h1 | ⟨h1, _⟩ | ⟨h1, h2⟩
                · have hn : ¬ j < i := by omega
                  simp only [hn, decide_false] at h1
                  rw [← h1] at hφj
                  cases hφj
                · omega
                · rcases hap i j oi oj h1 hoi hoj' with h3 | h3
                  · rw [h2] at h3; cases h3
                  · exact fun h => (Oper.apart_spec h3).2.1 d hdi (by rw [hdj]; exact congrArg some h)
        · rcases hs.K g hg with h1 | h1
          · rcases hr.K g h1 with h2 | ⟨j, rj, h2, h3⟩
            · exact .inl h2
            · exact .inr ⟨j, rj, by rw [h2]; simp, h3⟩
          · exact .inr ⟨i, ri, by simp, hri, h1⟩

/-- A region that draws its order. -/
theorem drawn_wp (hm : P.follows .mixedOrders = true) (hX : X.Sound P) (hok : drawOk ops = true) (hN : dstsOk N ops.toList = true) {s s' : St} {recs : List Rec} (tr : Tr P X ops ops.toList s recs s') (hl : looseOk recs (loose ops)) {C : Cfg} {a : Act} (hr : RelS C N s a)
    {r0 : Option Nat} {n id : Nat} {Q : Exit → Act → World → Prop} (hQ : ∀ C' a', RelS C' N s' a' → Grow C C' → Fr C C' → a'.defers = a.defers → Q .normal a' C'.w) : (Code.region id ops true).wpIn (W r0) n P Q a C.w := by
  refine wpIn_region_any hm ?_
  have hat := at_rel (w := { C.w with drawn := C.w.drawn + 1 }) rfl rfl rfl rfl hr
  have hg := at_grow (C := C) (w := { C.w with drawn := C.w.drawn + 1 }) rfl
  have hf := at_fr (C := C) (w := { C.w with drawn := C.w.drawn + 1 }) rfl rfl rfl rfl
  have hno : (fun j => (Array.replicate ops.size false).getD j false) = fun _ => false := by
    funext j
    simp only [Array.getD_eq_getD_getElem?, Array.getElem?_replicate]
    split <;> rfl
  refine drawn_go hX hok hN tr hl (C0 := C.at { C.w with drawn := C.w.drawn + 1 }) (D0 := a.defers) hat.defers (fun C' a' h1 h2 h3 h4 => hQ C' a' h1 (hg.trans h2) (hf.trans h3) h4) ops.size _ (C.at { C.w with drawn := C.w.drawn + 1 }) a (by simp) ?_ ?_ ?_
  · intro j o _ hj
    have := congrFun hno j
    rw [this] at hj
    cases hj
  · exact Nat.le_trans List.countP_le_length (by simp)
  · rw [hno]
    refine ⟨hat.valid, ?_, fun t => ?_, hat.size, rfl, fun g hg => .inl (hat.K g hg), .refl _, .refl _⟩
    · rw [apF_none]; exact hat.h
    · rw [apF_none]; exact hat.tmps t

end Go.AI
