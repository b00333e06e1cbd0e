/- What one operation does with abstract values is what the model does with values: parts, slices, new memory, struct literals. What one operation does with abstract values is what the model does with values: new variables, literals of structs and slices, make, operators. What one operation does with abstract values is what the model does with values: slice literals, make, operators, comparison. What one operation does with abstract values is what the model does with values: maps. No condition. -/
import Derived.Test.YtlidakhdcnkabaaM01
import Derived.Laws.StructEq
import Derived.IntWalk
import Derived.Lib.SliceRun
import Derived.WalkSpells
namespace Go.AI
variable {P : Program} {C : Cfg}

/-! ### Addresses -/
theorem field_at {s : TypeId} {ti : TI} (hti : tiOf P s = some ti) {fs : List (Nat × TypeId × Bool)} (hk : ti.kind = .strct fs) {f : Nat} {x : Nat × TypeId × Bool} (hx : fs[f]? = some x) :
    ∃ gs g, P.underlying s = some (.struct gs) ∧ gs[f]? = some g ∧ g.offset = x.1 ∧ g.type = x.2.1 := by
  obtain ⟨i, d, z, hi, hd, hz, rfl⟩ := tiOf_some hti
  obtain ⟨gs, rfl, rfl⟩ := tk_strct hk
  rw [List.getElem?_map, Array.getElem?_toList] at hx
  cases hg : gs[f]? with
  | none => rw [hg] at hx; cases hx
  | some g =>
    rw [hg] at hx
    cases hx
    exact ⟨gs, g, hd, hg, rfl, rfl⟩

theorem run_fieldAt {s : TypeId} {gs : Array Field} (hs : P.underlying s = some (.struct gs)) {f : Nat} {g : Field} (hg : gs[f]? = some g) {i : TypeInfo} (hi : P.info? g.type = some i) (h0 : i.size ≠ 0) (B o : Nat) (w : World) :
    (Instr.fieldAt s (.pointer (some ⟨B, o, none⟩)) f).run P w = .ok (.pointer (some ⟨B, o + g.offset, none⟩)) w := by
  simp [Instr.fieldAt, run_underlying hs, hg, Instr.sureAddr, fieldPlace, run_size hi, h0, Addr.add_lit]

theorem fieldAddr_sound (hv : Valid C) {nx G : Nat} {s : TypeId} {a : AVal} {f : Nat} {va : Value} (ha : VRep C a va) {d : Delta} (h : (fieldAddrR P nx G s a f).run C.h = some d) : OutV C G d ((Instr.fieldAt s va f).run P C.w) := by
  unfold fieldAddrR at h
  replace h := rd_opt h; obtain ⟨ti, hti, h⟩ := h
  split at h
  · rename_i fs hk
    replace h := rd_opt h; obtain ⟨x, hx, h⟩ := h
    replace h := rd_opt h; obtain ⟨fi, hfi, h⟩ := h
    replace h := rd_ifn h; obtain ⟨h0, h⟩ := h
    obtain ⟨gs, g, hu, hg, ho, ht⟩ := field_at hti hk hx
    obtain ⟨i, d', z, hi, hd', hz, rfl⟩ := tiOf_some hfi
    rw [← ht] at hi
    cases a with
    | ptr b g' j off =>
      replace h := rd_row h; obtain ⟨sz, es, wr, hb, h⟩ := h
      have hd := rd_val h
      obtain ⟨B, st, hι, rfl⟩ := ptr_live ha hb
      refine out_val hv hd (run_fieldAt hu hg hi h0 B _ C.w) ?_
      cases ha with
      | ptr b g' j off p hk h =>
        refine .ptr b g' j _ _ hk fun sz' es' wr' hb' => ?_
        rw [hb] at hb'
        cases hb'
        exact ⟨B, st, hι, by rw [ho, Nat.add_assoc (st + j * sz)]⟩
    | pim cs off =>
      have hd := rd_val h
      cases ha with
      | pim cs off B o vs hvs hc =>
        refine out_val hv hd (run_fieldAt hu hg hi h0 B _ C.w) ?_
        rw [ho, Nat.add_assoc]
        exact .pim cs _ B o vs hvs hc
    | _ => exact (rd_fail h).elim
  · exact (rd_fail h).elim

/-- A slice of an owned row that is alive. -/
theorem sl_live {b g lo n : Nat} {v : Value} (h : VRep C (.sl b g lo n) v) {sz : Nat} {es : List (List AVal)} {wr : Bool} (hb : C.h b = some (.row sz es g wr)) :
    ∃ p cap, v = .slice p n cap ∧ lo + n ≤ es.length ∧ C.K g ∧ ((n = 0 ∧ cap = 0) ∨
        ∃ B s T N, C.ι b = some (B, s) ∧ p = some ⟨B, s + lo * sz, none⟩ ∧ C.w.shape? B = some (T, N) ∧ n ≤ cap ∧ s + lo * sz + cap * sz ≤ N ∧ cap ≤ maxLen) := by
  cases h with
  | sl b g lo n p m cap hk h =>
    obtain ⟨rfl, h2, h3⟩ := h sz es wr hb
    exact ⟨p, cap, rfl, h2, hk, h3⟩

theorem okEs_mem {n : Nat} {es : List (List AVal)} (h : okEs n es = true) : ∀ e ∈ es, e.length = n := fun e he => by
  have := List.all_eq_true.1 h e he
  simp only [Bool.and_eq_true, beq_iff_eq] at this
  exact this.1

theorem okEs_sc {n : Nat} {es : List (List AVal)} (h : okEs n es = true) : ∀ e ∈ es, ∀ a ∈ e, a.sc = true := fun e he a ha => by
  have := List.all_eq_true.1 h e he
  simp only [Bool.and_eq_true] at this
  exact List.all_eq_true.1 this.2 a ha

theorem asI_rep {a : AVal} {v : Value} (h : VRep C a v) {i : Int} (hi : asI a = some i) : ∃ k, v = .int k i := by
  cases h <;> simp_all [asI]

theorem indexAddr_sound (hv : Valid C) {nx G : Nat} {t : TypeId} {x ix : AVal} {vx vi : Value} (hx : VRep C x vx) (hix : VRep C ix vi) {d : Delta} (h : (indexAddrR P nx G t x ix).run C.h = some d) :
    OutV C G d ((Instr.indexAt t vx vi).run P C.w) := by
  unfold indexAddrR at h
  replace h := rd_opt h; obtain ⟨ti, hti, h⟩ := h
  replace h := rd_opt h; obtain ⟨i, hi, h⟩ := h
  obtain ⟨k, rfl⟩ := asI_rep hix hi
  obtain ⟨inf, dd, z, hinf, hdd, hz, rfl⟩ := tiOf_some hti
  simp only at h
  split at h
  · rename_i e hk
    have hu := tk_slice hk
    subst hu
    cases x with
    | sl b g lo n =>
      replace h := rd_opt h; obtain ⟨ei, hei, h⟩ := h
      replace h := rd_row h; obtain ⟨sz, es, wr, hb, h⟩ := h
      replace h := rd_if h; obtain ⟨⟨h0, h1, hsz⟩, h⟩ := h
      have hd := rd_val h
      obtain ⟨p, cap, rfl, hle, hkk, hcase⟩ := sl_live hx hb
      rcases hcase with ⟨hn, _⟩ | ⟨B, s, T, N, hι, rfl, hsh, hcap, hN, hmax⟩
      · omega
      · obtain ⟨ie, de, ze, hie, hde, hze, rfl⟩ := tiOf_some hei
        simp only at hsz
        refine out_val hv hd (v := .pointer (some ⟨B, s + lo * sz + i.toNat * sz, none⟩)) ?_ ?_
        · simp [Instr.indexAt, asIntOf, run_underlying hdd, h0, h1, run_size hie, Addr.add_lit, hsz]
        · refine .ptr b g _ 0 _ hkk fun sz' es' wr' hb' => ?_
          rw [hb] at hb'
          cases hb'
          exact ⟨B, s, hι, by rw [Nat.add_mul, Nat.add_zero, Nat.add_assoc]⟩
    | il es ex =>
      replace h := rd_opt h; obtain ⟨ei, hei, h⟩ := h
      replace h := rd_if h; obtain ⟨⟨h0, h1, hok⟩, h⟩ := h
      replace h := rd_opt h; obtain ⟨cs, hcs, h⟩ := h
      have hd := rd_val h
      obtain ⟨ie, de, ze, hie, hde, hze, rfl⟩ := tiOf_some hei
      cases hx with
      | il es ex p cap B o sz vs hcap hex hmax hp hsz hvs hc =>
        have hne : es ≠ [] := by rintro rfl; simp at hcs
        obtain rfl := hp hne
        have hsz' : ie.size = sz := (okEs_mem hok cs (List.mem_of_getElem? hcs)).symm.trans (hsz cs (List.mem_of_getElem? hcs))
        refine out_val hv hd (v := .pointer (some ⟨B, o + i.toNat * sz, none⟩)) ?_ ?_
        · simp [Instr.indexAt, asIntOf, run_underlying hdd, h0, h1, run_size hie, Addr.add_lit, hsz']
        · refine .pim cs 0 B (o + i.toNat * sz) (fun j => vs i.toNat j) (fun j a hj => hvs _ _ cs a hcs hj) fun j a hj => ?_
          have := hc _ _ cs a hcs hj
          rw [Nat.add_assoc]
          exact this
    | _ => exact (rd_fail h).elim
  · rename_i n e hk
    have hu := tk_arr hk
    subst hu
    replace h := rd_opt h; obtain ⟨ei, hei, h⟩ := h
    replace h := rd_if h; obtain ⟨⟨h0, h1⟩, h⟩ := h
    obtain ⟨ie, de, ze, hie, hde, hze, rfl⟩ := tiOf_some hei
    cases x with
    | ptr b g j off =>
      replace h := rd_row h; obtain ⟨sz, es, wr, hb, h⟩ := h
      have hd := rd_val h
      obtain ⟨B, s, hι, rfl⟩ := ptr_live hx hb
      refine out_val hv hd (v := .pointer (some ⟨B, s + j * sz + off + i.toNat * ie.size, none⟩)) ?_ ?_
      · simp [Instr.indexAt, asIntOf, run_underlying hdd, h0, h1, run_size hie, Addr.add_lit, Instr.sureAddr]
      · cases hx with
        | ptr b g j off p hk h =>
          refine .ptr b g j _ _ hk fun sz' es' wr' hb' => ?_
          rw [hb] at hb'
          cases hb'
          exact ⟨B, s, hι, by rw [Nat.add_assoc (s + j * sz)]⟩
    | pim cs off =>
      have hd := rd_val h
      cases hx with
      | pim cs off B o vs hvs hc =>
        refine out_val hv hd (v := .pointer (some ⟨B, o + off + i.toNat * ie.size, none⟩)) ?_ ?_
        · simp [Instr.indexAt, asIntOf, run_underlying hdd, h0, h1, run_size hie, Addr.add_lit, Instr.sureAddr]
        · rw [Nat.add_assoc]
          exact .pim cs _ B o vs hvs hc
    | _ => exact (rd_fail h).elim
  · exact (rd_fail h).elim

/-! ### Parts of values -/
theorem part_run {t : TypeId} {ti : TI} (hti : tiOf P t = some ti) {cs : List AVal} {vs : Array Value} (hl : cs.length = vs.size) (hr : ∀ (i : Nat) (a : AVal) (v : Value), cs[i]? = some a → vs[i]? = some v → VRep C a v)
    {off : Nat} {a : AVal} (h : partA ti.agg ti.size off cs = some a) (w : World) : ∃ u, (part t vs off).run P w = .ok u w ∧ VRep C a u := by
  obtain ⟨i, d, z, hi, hd, hz, rfl⟩ := tiOf_some hti
  simp only [partA] at h
  unfold part
  simp only [Sem.run_bind, run_isAgg hd, Result.andThen_ok]
  cases hag : aggOf d with
  | true =>
    rw [hag] at h
    simp only [if_true] at h ⊢
    split at h
    · rename_i hle
      cases h
      refine ⟨.agg (vs.extract off (off + i.size)), by simp [run_size hi], .agg _ _ (by simp; omega) fun j x y hx hy => ?_⟩
      have hj : j < i.size := by
        have := (List.getElem?_eq_some_iff.1 hx).1
        simp at this; omega
      rw [List.getElem?_take_of_lt hj, List.getElem?_drop] at hx
      rw [Array.getElem?_extract] at hy
      split at hy
      · exact hr _ _ _ hx hy
      · cases hy
    · cases h
  | false =>
    rw [hag] at h
    simp only [Bool.false_eq_true, if_false] at h ⊢
    have hi' : off < vs.size := by rw [← hl]; exact (List.getElem?_eq_some_iff.1 h).1
    exact ⟨vs[off], by simp [Array.getElem?_eq_getElem hi'], hr off a _ h (Array.getElem?_eq_getElem hi')⟩

theorem index_sound (hv : Valid C) {nx G : Nat} {t : TypeId} {x ix : AVal} {vx vi : Value} (hx : VRep C x vx) (hix : VRep C ix vi) {d : Delta} (h : (indexR P nx G t x ix).run C.h = some d) :
    OutV C G d ((Instr.index t vx vi).run P C.w) := by
  unfold indexR at h
  replace h := rd_opt h; obtain ⟨ti, hti, h⟩ := h
  replace h := rd_opt h; obtain ⟨i, hi, h⟩ := h
  obtain ⟨k, rfl⟩ := asI_rep hix hi
  obtain ⟨inf, dd, z, hinf, hdd, hz, rfl⟩ := tiOf_some hti
  split at h
  · rename_i n e cs hk
    have hu := tk_arr hk
    subst hu
    replace h := rd_opt h; obtain ⟨ei, hei, h⟩ := h
    replace h := rd_if h; obtain ⟨⟨h0, h1⟩, h⟩ := h
    replace h := rd_opt h; obtain ⟨a, ha, h⟩ := h
    have hd := rd_val h
    cases hx with
    | agg cs vs hl hr =>
      obtain ⟨u, hu, hru⟩ := part_run hei hl hr ha C.w
      obtain ⟨ie, de, ze, hie, hde, hze, rfl⟩ := tiOf_some hei
      exact out_val hv hd (by simpa [Instr.index, asIntOf, run_underlying hdd, h0, h1, run_size hie] using hu) hru
  · exact (rd_fail h).elim

theorem field_sound (hv : Valid C) {nx G : Nat} {t : TypeId} {x : AVal} {f : Nat} {vx : Value} (hx : VRep C x vx) {d : Delta} (h : (fieldR P nx G t x f).run C.h = some d) : OutV C G d ((Instr.field t vx f).run P C.w) := by
  unfold fieldR at h
  replace h := rd_opt h; obtain ⟨ti, hti, h⟩ := h
  split at h
  · rename_i fs cs hk
    replace h := rd_opt h; obtain ⟨y, hy, h⟩ := h
    replace h := rd_opt h; obtain ⟨fi, hfi, h⟩ := h
    replace h := rd_opt h; obtain ⟨a, ha, h⟩ := h
    have hd := rd_val h
    obtain ⟨gs, g, hu, hg, ho, ht⟩ := field_at hti hk hy
    cases hx with
    | agg cs vs hl hr =>
      obtain ⟨u, hru, hrep⟩ := part_run hfi hl hr ha C.w
      refine out_val hv hd (v := u) ?_ hrep
      simp [Instr.field, run_underlying hu, hg, asAgg, ho, ht, hru]
  · exact (rd_fail h).elim

/-! ### Slices -/
theorem optA_rep {ρ : Operand → AVal} {ρc : Operand → Value} (hρ : ∀ x, VRep C (ρ x) (ρc x)) {x : Option Operand} {dflt l : Int} (h : optA ρ x dflt = some l) :
    (x = none ∧ l = dflt) ∨ ∃ o k, x = some o ∧ ρc o = .int k l := by
  cases x with
  | none => simp only [optA, Option.some.injEq] at h; exact .inl ⟨rfl, h.symm⟩
  | some o =>
    obtain ⟨k, hk⟩ := asI_rep (hρ o) (i := l) h
    exact .inr ⟨o, k, rfl, hk⟩

theorem run_bounds {ρc : Operand → Value} {lo hi : Option Operand} {len cap : Nat} {l h : Int} (hlo : (lo = none ∧ l = 0) ∨ ∃ o k, lo = some o ∧ ρc o = .int k l) (hhi : (hi = none ∧ h = len) ∨ ∃ o k, hi = some o ∧ ρc o = .int k h)
    (h0 : 0 ≤ l) (h1 : l ≤ h) (h2 : h ≤ len) (hcap : len ≤ cap) (w : World) : (Instr.sliceBounds true len cap (lo.map ρc) (hi.map ρc) none).run P w = .ok (l.toNat, h.toNat, cap) w := by
  have hh : 0 ≤ h := by omega
  have hc : h ≤ cap := by omega
  have hht : ((h.toNat : Nat) : Int) = h := Int.toNat_of_nonneg hh
  rcases hlo with ⟨rfl, rfl⟩ | ⟨o, k, rfl, hk⟩ <;> rcases hhi with ⟨rfl, rfl⟩ | ⟨o', k', rfl, hk'⟩ <;>
    simp [Instr.sliceBounds, Instr.sliceBound, asIntOf, *]

theorem run_bounds3 {ρc : Operand → Value} {lo : Option Operand} {o' m : Operand} {len cap : Nat} {l h : Int} {k' km : IntKind} (hlo : (lo = none ∧ l = 0) ∨ ∃ o k, lo = some o ∧ ρc o = .int k l) (hhi : ρc o' = .int k' h) (hm : ρc m = .int km h)
    (h0 : 0 ≤ l) (h1 : l ≤ h) (h2 : h ≤ len) (hcap : len ≤ cap) (w : World) : (Instr.sliceBounds true len cap (lo.map ρc) (some (ρc o')) (some (ρc m))).run P w = .ok (l.toNat, h.toNat, h.toNat) w := by
  have hh : 0 ≤ h := by omega
  have hc : h ≤ cap := by omega
  have hht : ((h.toNat : Nat) : Int) = h := Int.toNat_of_nonneg hh
  rcases hlo with ⟨rfl, rfl⟩ | ⟨o, k, rfl, hk⟩ <;> simp [Instr.sliceBounds, Instr.sliceBound, asIntOf, *]

/-- A part of an immutable slice. -/
theorem il_sub {es : List (List AVal)} {ex : Bool} {p : Option Addr} {cap : Nat} (h : VRep C (.il es ex) (.slice p es.length cap)) (sz l n cap' : Nat) (hsz : ∀ e ∈ es, e.length = sz) (hn : l + n ≤ es.length) (hc : n ≤ cap') (hc' : cap' ≤ cap) (ex' : Bool)
    (hex : ex' = true → cap' = n) (p' : Option Addr) (hp : n ≠ 0 → p' = p.map (·.add (l * sz))) : VRep C (.il ((es.drop l).take n) ex') (.slice p' n cap') := by
  have hlen : ((es.drop l).take n).length = n := by simp; omega
  cases h with
  | il es ex p cap B o sz' vs hcap hex0 hmax hpp hsz' hvs hcs =>
    have := VRep.il (C := C) ((es.drop l).take n) ex' p' cap' B (o + l * sz) sz (fun i j => vs (l + i) j) (by omega) (by rw [hlen]; exact hex) (by omega)
      (fun hne => by
        have hn0 : n ≠ 0 := by rintro rfl; simp at hne
        have hes : es ≠ [] := by rintro rfl; simp at hne
        rw [hp hn0, hpp hes]
        simp [Addr.add_lit])
      (fun e he => hsz e (List.mem_of_mem_drop (List.mem_of_mem_take he)))
      (fun i j e a hi hj => by
        have hin : i < n := by have := (List.getElem?_eq_some_iff.1 hi).1; omega
        rw [List.getElem?_take_of_lt hin, List.getElem?_drop] at hi
        exact hvs _ _ e a hi hj)
      (fun i j e a hi hj => by
        have hin : i < n := by have := (List.getElem?_eq_some_iff.1 hi).1; omega
        rw [List.getElem?_take_of_lt hin, List.getElem?_drop] at hi
        have h2 := hcs _ _ e a hi hj
        have hzz : sz' = sz := by rw [← hsz' e (List.mem_of_getElem? hi), hsz e (List.mem_of_getElem? hi)]
        subst hzz
        rw [show o + l * sz' + (i * sz' + j) = o + ((l + i) * sz' + j) by rw [Nat.add_mul]; omega]
        exact h2)
    rw [hlen] at this
    exact this

/-- What a frozen row's slice holds. -/
theorem frozen_il (hv : Valid C) {b g sz : Nat} {es : List (List AVal)} (hb : C.h b = some (.row sz es g false)) {lo n : Nat} {p : Option Addr} {cap : Nat} (h : VRep C (.sl b g lo n) (.slice p n cap)) (ex : Bool) (cap' : Nat) (hn : n ≤ cap') (hc : cap' ≤ cap) (hex : ex = true → cap' = n) :
    VRep C (.il ((es.drop lo).take n) ex) (.slice p n cap') := by
  obtain ⟨p', cap0, he, hle, hk, hcase⟩ := sl_live h hb
  cases he
  have hlen : ((es.drop lo).take n).length = n := by simp; omega
  rcases hcase with ⟨rfl, rfl⟩ | ⟨B, s, T, N, hι, rfl, hsh, hcap, hN, hmax⟩
  · have : cap' = 0 := by omega
    subst this
    simp only [List.take_zero]
    exact .il [] ex p 0 0 0 0 (fun _ _ => undef) (by simp) (fun _ => rfl) (Nat.zero_le _) (fun h => absurd rfl h) (by simp) (by simp) (by simp)
  · obtain ⟨c, T', hat, hle', hsz, hcell⟩ := row_cells hv hb hι
    have := VRep.il (C := C) ((es.drop lo).take n) ex (some ⟨B, s + lo * sz, none⟩) cap' B (s + lo * sz) sz (fun i j => c.getD (s + ((lo + i) * sz + j)) undef) (by omega) (by rw [hlen]; exact hex) (by omega) (fun _ => rfl)
      (fun e he => hsz e (List.mem_of_mem_drop (List.mem_of_mem_take he)))
      (fun i j e a hi hj => by
        have hin : i < n := by have := (List.getElem?_eq_some_iff.1 hi).1; omega
        rw [List.getElem?_take_of_lt hin, List.getElem?_drop] at hi
        obtain ⟨v, h1, h2⟩ := hcell _ _ e a hi hj
        simp [Array.getD_eq_getD_getElem?, h1, h2])
      (fun i j e a hi hj => by
        have hin : i < n := by have := (List.getElem?_eq_some_iff.1 hi).1; omega
        rw [List.getElem?_take_of_lt hin, List.getElem?_drop] at hi
        obtain ⟨v, h1, h2⟩ := hcell _ _ e a hi hj
        have hje : j < sz := by rw [← hsz e (List.mem_of_getElem? hi)]; exact (List.getElem?_eq_some_iff.1 hj).1
        have hil : lo + i < es.length := (List.getElem?_eq_some_iff.1 hi).1
        have hadd : s + lo * sz + (i * sz + j) = s + ((lo + i) * sz + j) := by rw [Nat.add_mul]; omega
        have hlt : (lo + i) * sz + sz ≤ es.length * sz := by rw [← Nat.succ_mul]; exact Nat.mul_le_mul_right _ hil
        rw [hadd]
        refine ⟨?_, fun hf => (hv.forb B _ hf).2 ⟨b, _, s, hb, hι⟩, fun b' x s' hx hi' => ?_⟩
        · rw [cell_of_row _ _ _ _ _ _ hat, Array.getD_eq_getD_getElem?, h1]; rfl
        · have hbb := hv.inj b b' _ x B s s' hb hx hι hi'
          subst hbb
          rw [hb] at hx; rw [hι] at hi'
          cases hx; cases hi'
          simp only [AObj.leaves, Bool.false_eq_true, if_false]
          omega)
    rw [hlen] at this
    exact this

theorem slice_sound (hv : Valid C) {nx G : Nat} {t : TypeId} {x : AVal} {vx : Value} (hx : VRep C x vx) {ρ : Operand → AVal} {ρc : Operand → Value} (hρ : ∀ x, VRep C (ρ x) (ρc x)) {lo hi mx : Option Operand} {d : Delta}
    (h : (sliceR P ρ nx G t x lo hi mx).run C.h = some d) : OutV C G d ((Instr.sliceAt t vx (lo.map ρc) (hi.map ρc) (mx.map ρc)).run P C.w) := by
  unfold sliceR at h
  replace h := rd_opt h; obtain ⟨ti, hti, h⟩ := h
  obtain ⟨inf, dd, z, hinf, hdd, hz, rfl⟩ := tiOf_some hti
  simp only at h
  split at h
  case h_2 => exact (rd_fail h).elim
  rename_i e hk
  have hu := tk_slice hk
  subst hu
  replace h := rd_opt h; obtain ⟨ei, hei, h⟩ := h
  obtain ⟨ie, de, ze, hie, hde, hze, rfl⟩ := tiOf_some hei
  cases x with
  | sl b g s n =>
    replace h := rd_row h; obtain ⟨sz, es, wr, hb, h⟩ := h
    replace h := rd_opt h; obtain ⟨l, hl, h⟩ := h
    replace h := rd_opt h; obtain ⟨hh, hh', h⟩ := h
    replace h := rd_if h; obtain ⟨⟨h0, h1, h2, hsz⟩, h⟩ := h
    simp only at hsz
    have hlo := optA_rep hρ hl
    have hhi := optA_rep hρ hh'
    obtain ⟨p, cap, rfl, hle, hkk, hcase⟩ := sl_live hx hb
    have hcap : n ≤ cap := by rcases hcase with ⟨a, b⟩ | ⟨B, s, T, N, _, _, _, h, _⟩ <;> omega
    cases mx with
    | none =>
      simp only at h
      have hd := rd_val h
      have hrun := run_bounds (P := P) (cap := cap) hlo hhi h0 h1 h2 hcap C.w
      refine out_val hv hd (v := .slice (if cap = l.toNat then p else p.map (·.add (l.toNat * sz))) (hh.toNat - l.toNat) (cap - l.toNat)) ?_ ?_
      · simp [Instr.sliceAt, Instr.slice, run_underlying hdd, hrun, run_size hie, hsz]
      · refine .sl b g _ _ _ _ _ hkk fun sz' es' wr' hb' => ?_
        rw [hb] at hb'
        cases hb'
        refine ⟨by omega, by omega, ?_⟩
        rcases hcase with ⟨rfl, rfl⟩ | ⟨B, s', T, N, hι, rfl, hsh, hcap, hN, hmax⟩
        · left; omega
        · by_cases hcl : cap = l.toNat
          · left; omega
          · right
            have hm : l.toNat * sz + (cap - l.toNat) * sz = cap * sz := by rw [← Nat.add_mul]; congr 1; omega
            refine ⟨B, s', T, N, hι, ?_, hsh, by omega, ?_, by omega⟩
            · rw [if_neg hcl]
              simp [Addr.add_lit, Nat.add_mul, Nat.add_assoc]
            · rw [Nat.add_mul]; omega
    | some m =>
      simp only at h
      replace h := rd_opt h; obtain ⟨mm, hmm, h⟩ := h
      replace h := rd_if h; obtain ⟨⟨rfl, hsome, hflat⟩, h⟩ := h
      have hd := rd_ret h
      obtain ⟨o', rfl⟩ := Option.isSome_iff_exists.1 hsome
      obtain ⟨k', hk'⟩ : ∃ k', ρc o' = .int k' mm := by
        rcases hhi with ⟨h, _⟩ | ⟨o2, k2, h, h'⟩
        · cases h
        · cases h; exact ⟨k2, h'⟩
      obtain ⟨km, hkm⟩ := asI_rep (hρ m) hmm
      have hrun := run_bounds3 (P := P) (cap := cap) hlo hk' hkm h0 h1 h2 hcap C.w
      subst hd
      obtain ⟨C', hw, hstp, hι', hb'⟩ := freeze_stp (G := G) (d := ⟨.il ((es.drop (s + l.toNat)).take (mm - l).toNat) true, [(b, some (.row sz es g false))], nx, G⟩) hv hb rfl rfl
      refine ⟨C', .slice (if mm.toNat = l.toNat then p else p.map (·.add (l.toNat * sz))) (mm.toNat - l.toNat) (mm.toNat - l.toNat), ?_, ?_, hstp⟩
      · rw [hw]
        simp [Instr.sliceAt, Instr.slice, run_underlying hdd, hrun, run_size hie, hsz]
      · have hx' := hstp.grow.rep hx
        have hn : (mm - l).toNat = mm.toNat - l.toNat := by omega
        have hfull := frozen_il hstp.valid hb' hx' false cap hcap (Nat.le_refl _) (by simp)
        have hlen : ((es.drop s).take n).length = n := by simp; omega
        have hszs : ∀ e ∈ (es.drop s).take n, e.length = sz := fun e he => (hv.obj b _ hb).2.1 e (List.mem_of_mem_drop (List.mem_of_mem_take he))
        have hsub := il_sub (l := l.toNat) (n := mm.toNat - l.toNat) (cap' := mm.toNat - l.toNat) (sz := sz) (by rw [hlen]; exact hfull) hszs (by rw [hlen]; omega) (Nat.le_refl _) (by omega) true (fun _ => rfl)
          (if mm.toNat = l.toNat then p else p.map (·.add (l.toNat * sz))) (fun hne => by rw [if_neg (by omega)])
        have heq : (((es.drop s).take n).drop l.toNat).take (mm.toNat - l.toNat) = (es.drop (s + l.toNat)).take (mm - l).toNat := by
          rw [List.drop_take, List.take_take, List.drop_drop, hn, Nat.min_eq_left (by omega)]
        rw [heq] at hsub
        exact hsub
  | il es ex =>
    replace h := rd_opt h; obtain ⟨l, hl, h⟩ := h
    replace h := rd_opt h; obtain ⟨hh, hh', h⟩ := h
    replace h := rd_if h; obtain ⟨⟨h0, h1, h2, hok⟩, h⟩ := h
    have hlo := optA_rep hρ hl
    have hhi := optA_rep hρ hh'
    have hszs := okEs_mem hok
    simp only at hszs
    have hx0 := hx
    cases hx with
    | il es ex p cap B o sz vs hcap hex hmax hp hsz hvs hc =>
      cases mx with
      | none =>
        simp only at h
        have hd := rd_val h
        have hrun := run_bounds (P := P) (cap := cap) hlo hhi h0 h1 h2 hcap C.w
        have hn : (hh - l).toNat = hh.toNat - l.toNat := by omega
        refine out_val hv hd (v := .slice (if cap = l.toNat then p else p.map (·.add (l.toNat * ie.size))) (hh.toNat - l.toNat) (cap - l.toNat)) ?_ ?_
        · simp [Instr.sliceAt, Instr.slice, run_underlying hdd, hrun, run_size hie]
        · rw [hn]
          refine il_sub hx0 ie.size l.toNat (hh.toNat - l.toNat) (cap - l.toNat) hszs (by omega) (by omega) (by omega) _ (fun he => ?_) _ (fun hne => by rw [if_neg (by omega)])
          simp only [Bool.and_eq_true, beq_iff_eq] at he
          have := hex he.1
          omega
      | some m =>
        simp only at h
        replace h := rd_opt h; obtain ⟨mm, hmm, h⟩ := h
        replace h := rd_if h; obtain ⟨⟨rfl, hsome⟩, h⟩ := h
        have hd := rd_val h
        obtain ⟨o', rfl⟩ := Option.isSome_iff_exists.1 hsome
        obtain ⟨k', hk'⟩ : ∃ k', ρc o' = .int k' mm := by
          rcases hhi with ⟨h, _⟩ | ⟨o2, k2, h, h'⟩
          · cases h
          · cases h; exact ⟨k2, h'⟩
        obtain ⟨km, hkm⟩ := asI_rep (hρ m) hmm
        have hrun := run_bounds3 (P := P) (cap := cap) hlo hk' hkm h0 h1 h2 hcap C.w
        have hn : (mm - l).toNat = mm.toNat - l.toNat := by omega
        refine out_val hv hd (v := .slice (if mm.toNat = l.toNat then p else p.map (·.add (l.toNat * ie.size))) (mm.toNat - l.toNat) (mm.toNat - l.toNat)) ?_ ?_
        · simp [Instr.sliceAt, Instr.slice, run_underlying hdd, hrun, run_size hie]
        · rw [hn]
          exact il_sub hx0 ie.size l.toNat (mm.toNat - l.toNat) (mm.toNat - l.toNat) hszs (by omega) (by omega) (by omega) true (fun _ => rfl) _ (fun hne => by rw [if_neg (by omega)])
  | _ => exact (rd_fail h).elim

end Go.AI

namespace Go.AI
variable {P : Program} {C : Cfg}

theorem ofVal_cells_rep (z : Value) : ∀ (i : Nat) (x : AVal), (ofVal z).cells[i]? = some x → ∃ y, z.cells[i]? = some y ∧ VRep C x y := by
  intro i x hx
  by_cases h : ∀ cs, z ≠ .agg cs
  · rw [ofVal_one z h] at hx
    have h1 : (ofVal1 z).cells = [ofVal1 z] := by
      cases z with
      | agg cs => exact absurd rfl (h cs)
      | pointer a => cases a <;> rfl
      | map r => cases r <;> rfl
      | slice a n c => cases a with
        | some a => rfl
        | none => cases n with
          | succ n => rfl
          | zero => cases c <;> rfl
      | _ => rfl
    have h2 : z.cells = #[z] := by cases z <;> first | rfl | exact absurd rfl (h _)
    rw [h1] at hx
    rw [h2]
    cases i with
    | zero =>
      simp only [List.getElem?_cons_zero, Option.some.injEq] at hx
      subst hx
      exact ⟨z, rfl, ofVal1_rep z⟩
    | succ i => simp at hx
  · obtain ⟨cs, rfl⟩ : ∃ cs, z = .agg cs := by
      cases z with
      | agg cs => exact ⟨cs, rfl⟩
      | _ => exact absurd (fun cs => by simp) h
    simp only [ofVal, AVal.cells, List.getElem?_map, Array.getElem?_toList] at hx
    cases hc : cs[i]? with
    | none => rw [hc] at hx; cases hx
    | some y =>
      rw [hc] at hx
      cases hx
      exact ⟨y, hc, ofVal1_rep y⟩

/-- A new row, as an operation's result. -/
theorem newRow_out (hv : Valid C) {nx G : Nat} (hf : ¬ C.K G) {w1 : World} (hw : w1.heap = C.w.heap) (hos : w1.os = C.w.os) (htape : w1.tape = C.w.tape) (hout : w1.output = C.w.output)
    {mk : Nat → Nat → AVal} {sz : Nat} {es : List (List AVal)} {d : Delta} (hd : d = ⟨mk nx G, [(nx, some (.row sz es G true))], nx + 1, G + 1⟩) (cs : Array Value) (T : TypeId) {v : Value} {r : Result Value} (hr : r = .ok v (w1.alloc (.cells cs T)))
    (hes : ∀ e ∈ es, e.length = sz) (hsz : es.length * sz ≤ cs.size) (hrep : ∀ i j e a, es[i]? = some e → e[j]? = some a → ∃ v, cs[i * sz + j]? = some v ∧ VRep C a v)
    (hval : ∀ C' : Cfg, C'.ι nx = some (C.w.heap.size, 0) → C'.K G → C'.h nx = some (.row sz es G true) → C'.w.shape? C.w.heap.size = some (T, cs.size) → VRep C' (mk nx G) v) : OutV C G d r := by
  obtain ⟨C', h1, h2, h3, h4, h5, h6⟩ := newRow_stp (d := d) hv nx hw hos htape hout cs T sz es true hf (by rw [hd]) (by rw [hd]) hes hsz hrep
  exact ⟨C', v, by rw [h1]; exact hr, by rw [hd]; exact hval C' h3 h4 h5 h6, h2⟩

theorem ptr_new {C' : Cfg} {nx G B : Nat} (hι : C'.ι nx = some (B, 0)) (hK : C'.K G) : VRep C' (.ptr nx G 0 0) (.pointer (some ⟨B, 0, none⟩)) :=
  .ptr nx G 0 0 _ hK fun sz es wr hb => ⟨B, 0, hι, by simp⟩

theorem one_row {cs : List AVal} {i j : Nat} {e : List AVal} {a : AVal} {sz : Nat} {vs : Array Value} (h : ∀ (i : Nat) (x : AVal), cs[i]? = some x → ∃ y, vs[i]? = some y ∧ VRep C x y) (hi : [cs][i]? = some e) (hj : e[j]? = some a) :
    ∃ v, vs[i * sz + j]? = some v ∧ VRep C a v := by
  cases i with
  | zero =>
    simp only [List.getElem?_cons_zero, Option.some.injEq] at hi
    subst hi
    rw [Nat.zero_mul, Nat.zero_add]
    exact h j a hj
  | succ i => simp at hi

theorem alloc_sound (hv : Valid C) {nx G : Nat} (hf : ¬ C.K G) {t : TypeId} {d : Delta}
    (h : (ofOpt (tiOf P t) fun ti => if ti.zero.cells.length = ti.size then newRow nx G (fun b g => .ptr b g 0 0) ti.size [ti.zero.cells] else .fail).run C.h = some d) :
    OutV C G d ((Instr.alloc t true (.tuple #[])).run P C.w) := by
  replace h := rd_opt h; obtain ⟨ti, hti, h⟩ := h
  obtain ⟨i, dd, z, hi, hdd, hz, rfl⟩ := tiOf_some hti
  replace h := rd_if h; obtain ⟨hl, h⟩ := h
  have hd := rd_ret h
  simp only at hl hd
  refine newRow_out (mk := fun b g => .ptr b g 0 0) hv hf rfl rfl rfl rfl hd z.cells t (v := .pointer (some ⟨C.w.heap.size, 0, none⟩)) ?_ (by simpa using hl) (by rw [ofVal_cells] at hl; simp; omega)
    (fun i' j e a h1 h2 => one_row (ofVal_cells_rep z) h1 h2) fun C' h1 h2 _ _ => ptr_new h1 h2
  simp [Instr.alloc, run_zero hi hz, newVar]
  rfl

theorem box_sound (hv : Valid C) {nx G : Nat} (hf : ¬ C.K G) {t : TypeId} {a : AVal} {va : Value} (ha : VRep C a va) {d : Delta}
    (h : (ofOpt (tiOf P t) fun ti => if a.cells.length = ti.size ∧ a.cells.all AVal.sc = true then newRow nx G (fun b g => .ptr b g 0 0) ti.size [a.cells] else .fail).run C.h = some d) :
    OutV C G d ((Instr.box t va).run P C.w) := by
  replace h := rd_opt h; obtain ⟨ti, hti, h⟩ := h
  replace h := rd_if h; obtain ⟨⟨hl, hsc⟩, h⟩ := h
  have hd := rd_ret h
  obtain ⟨hcl, hcr⟩ := cells_rep ha hsc
  refine newRow_out (mk := fun b g => .ptr b g 0 0) hv hf rfl rfl rfl rfl hd va.cells t (v := .pointer (some ⟨C.w.heap.size, 0, none⟩)) ?_ (by simpa using hl) (by simp; omega)
    (fun i' j e a h1 h2 => one_row hcr h1 h2) fun C' h1 h2 _ _ => ptr_new h1 h2
  simp [Instr.box, newVar]
  rfl

/-! ### Filling -/
/-- Cells that stand for values. -/
def CellsRep (C : Cfg) (cs : List AVal) (vs : Array Value) : Prop := cs.length = vs.size ∧ ∀ (i : Nat) (x : AVal), cs[i]? = some x → ∃ y, vs[i]? = some y ∧ VRep C x y

theorem foldl_set (off : Nat) : ∀ (l : List Value) (k : Nat) (cs : Array Value), off + k + l.length ≤ cs.size →
    ((l.zipIdx k).foldl (fun cs (x : Value × Nat) => cs.setIfInBounds (off + x.2) x.1) cs) = over cs (off + k) l
  | [], k, cs, _ => by simp [over]
  | v :: l, k, cs, h => by
    simp only [List.zipIdx_cons, List.foldl_cons, List.length_cons] at h ⊢
    rw [foldl_set off l (k + 1) _ (by simp; omega)]
    have h1 : off + (k + 1) + l.length ≤ (cs.setIfInBounds (off + k) v).size := by simp; omega
    have h2 : off + k + (v :: l).length ≤ cs.size := by simp; omega
    apply Array.ext_getElem?
    intro j
    by_cases hj : j < off + k
    · rw [over_out h1 (.inl (by omega)), over_out h2 (.inl hj), Array.getElem?_setIfInBounds_ne (by omega)]
    · by_cases hj2 : off + k + (l.length + 1) ≤ j
      · rw [over_out h1 (.inr (by omega)), over_out h2 (.inr (by simpa using hj2)), Array.getElem?_setIfInBounds_ne (by omega)]
      · obtain ⟨m, rfl⟩ : ∃ m, j = off + k + m := ⟨j - (off + k), by omega⟩
        rw [over_in h2 (by simp; omega)]
        cases m with
        | zero =>
          rw [over_out h1 (.inl (by omega))]
          simp only [Nat.add_zero, List.getElem?_cons_zero]
          rw [Array.getElem?_setIfInBounds_self_of_lt (by omega)]
        | succ m =>
          rw [show off + k + (m + 1) = off + (k + 1) + m by omega, over_in h1 (by omega), List.getElem?_cons_succ]

theorem fill_put (off : Nat) (v : Value) (cs : Array Value) (h : off + v.cells.size ≤ cs.size) :
    v.cells.zipIdx.foldl (fun cs (x : Value × Nat) => cs.setIfInBounds (off + x.2) x.1) cs = over cs off v.cells.toList := by
  rw [← Array.foldl_toList, Array.toList_zipIdx]
  have := foldl_set off v.cells.toList 0 cs (by simpa using h)
  simpa using this

theorem over_rep {cs vs : List AVal} {xs : Array Value} {ys : Array Value} {off : Nat} (h : CellsRep C cs xs) (hv : CellsRep C vs ys) (hl : off + vs.length ≤ cs.length) : CellsRep C (setCs cs off vs) (over xs off ys.toList) := by
  have hfit : off + ys.toList.length ≤ xs.size := by rw [← h.1]; simp; rw [← hv.1]; exact hl
  refine ⟨by rw [setCs_length hl, over_size hfit, h.1], fun j x hj => ?_⟩
  by_cases hj1 : off ≤ j ∧ j < off + vs.length
  · obtain ⟨k, rfl⟩ : ∃ k, j = off + k := ⟨j - off, by omega⟩
    rw [setCs_in hl (by omega)] at hj
    rw [over_in hfit (by simp; rw [← hv.1]; omega), Array.getElem?_toList]
    exact hv.2 k x hj
  · rw [setCs_out hl (by omega)] at hj
    rw [over_out hfit (by simp; rw [← hv.1]; omega)]
    exact h.2 j x hj

theorem fill_sound {place : Nat → Option (Nat × Nat)} : ∀ (parts : List (Nat × AVal)) (cs : List AVal) (xs : Array Value) (ps : List (Nat × Value)) {r : List AVal}, CellsRep C cs xs →
    parts.map Prod.fst = ps.map Prod.fst → (∀ (i : Nat) (a : Nat × AVal) (v : Nat × Value), parts[i]? = some a → ps[i]? = some v → VRep C a.2 v.2) → fillA place cs parts = some r →
    ∃ ys, Instr.fill place xs ps = some ys ∧ CellsRep C r ys
  | [], cs, xs, ps, r, h, hm, _, hr => by
    have : ps = [] := by simpa using hm.symm
    subst this
    simp only [fillA, Option.some.injEq] at hr
    subst hr
    exact ⟨xs, rfl, h⟩
  | (i, a) :: parts, cs, xs, ps, r, h, hm, hrep, hr => by
    cases ps with
    | nil => simp at hm
    | cons q ps =>
      obtain ⟨j, v⟩ := q
      simp only [List.map_cons, List.cons.injEq] at hm
      obtain ⟨rfl, hm⟩ := hm
      simp only [fillA] at hr
      cases hp : place i with
      | none => rw [hp] at hr; cases hr
      | some pl =>
        obtain ⟨off, size⟩ := pl
        rw [hp] at hr
        simp only at hr
        split at hr
        · rename_i hc
          obtain ⟨h1, h2, h3⟩ := hc
          have hav : VRep C a v := hrep 0 (i, a) (i, v) rfl rfl
          have hcr := cells_rep hav h3
          obtain ⟨ys, hy, hys⟩ := fill_sound parts _ (over xs off v.cells.toList) ps (over_rep h hcr h2) hm (fun k x y hx hy => hrep (k + 1) x y hx hy) hr
          refine ⟨ys, ?_, hys⟩
          have hs1 : v.cells.size = size := by rw [← hcr.1]; exact h1
          have hs2 : off + v.cells.size ≤ xs.size := by rw [← hcr.1, ← h.1]; exact h2
          simp only [Instr.fill, hp]
          rw [if_neg (by simp [hs1]; omega), fill_put off v xs hs2]
          exact hy
        · cases hr

theorem parts_map {ρ : Operand → AVal} {ρc : Operand → Value} (hρ : ∀ x, VRep C (ρ x) (ρc x)) (parts : Array (Nat × Operand)) :
    (parts.toList.map fun p => (p.1, ρ p.2)).map Prod.fst = ((parts.map fun (i, x) => (i, ρc x)).toList).map Prod.fst ∧
    ∀ (i : Nat) (a : Nat × AVal) (v : Nat × Value), (parts.toList.map fun p => (p.1, ρ p.2))[i]? = some a → ((parts.map fun (i, x) => (i, ρc x)).toList)[i]? = some v → VRep C a.2 v.2 := by
  refine ⟨by simp, fun i a v ha hv => ?_⟩
  rw [Array.toList_map, List.getElem?_map] at hv
  rw [List.getElem?_map] at ha
  cases hp : parts.toList[i]? with
  | none => rw [hp] at ha; cases ha
  | some p =>
    rw [hp] at ha hv
    cases ha; cases hv
    exact hρ p.2

theorem run_placesT (w : World) : ∀ (gs : List Field) (pl : List (Nat × Nat)), (gs.map fun (f : Field) => (f.offset, f.type, f.name == "_")).mapM (fun (f : Nat × TypeId × Bool) => (tiOf P f.2.1).map fun fi => (f.1, fi.size)) = some pl →
    (gs.mapM fun (f : Field) => (do pure (f.offset, ← sizeOf f.type) : Sem (Nat × Nat))).run P w = .ok pl w
  | [], pl, h => by
    simp only [List.map_nil, List.mapM_nil, Option.pure_def, Option.some.injEq] at h
    subst h
    rfl
  | g :: gs, pl, h => by
    simp only [List.map_cons, List.mapM_cons, Option.bind_eq_bind, Option.pure_def] at h
    cases ht : tiOf P g.type with
    | none => rw [ht] at h; simp at h
    | some fi =>
      rw [ht] at h
      simp only [Option.map_some, Option.bind_some] at h
      cases hr : (gs.map fun f => (f.offset, f.type, f.name == "_")).mapM (fun f => (tiOf P f.2.1).map fun fi => (f.1, fi.size)) with
      | none => rw [hr] at h; simp at h
      | some rest =>
        rw [hr] at h
        simp only [Option.bind_some, Option.some.injEq] at h
        subst h
        obtain ⟨i, d, z, hi, hd, hz, rfl⟩ := tiOf_some ht
        have ih := run_placesT w gs rest hr
        simp only [List.mapM_cons, Sem.run_bind, run_size hi, Result.andThen_ok, Sem.run_pure, ih]

theorem zeroCs (z : Value) : CellsRep C (ofVal z).cells z.cells := ⟨ofVal_cells z, ofVal_cells_rep z⟩

theorem build_sound (hv : Valid C) {nx G : Nat} {t : TypeId} {parts : Array (Nat × Operand)} {ρ : Operand → AVal} {ρc : Operand → Value} (hρ : ∀ x, VRep C (ρ x) (ρc x)) {d : Delta}
    (h : (buildR P nx G t (parts.toList.map fun p => (p.1, ρ p.2))).run C.h = some d) : OutV C G d ((Instr.build t (parts.map fun (i, x) => (i, ρc x))).run P C.w) := by
  unfold buildR at h
  replace h := rd_opt h; obtain ⟨ti, hti, h⟩ := h
  obtain ⟨inf, dd, z, hinf, hdd, hz, rfl⟩ := tiOf_some hti
  obtain ⟨hm1, hm2⟩ := parts_map hρ parts
  split at h
  · rename_i fs hk
    obtain ⟨gs, rfl, rfl⟩ := tk_strct hk
    replace h := rd_opt h; obtain ⟨pl, hpl, h⟩ := h
    replace h := rd_opt h; obtain ⟨cs, hcs, h⟩ := h
    have hd := rd_val h
    obtain ⟨ys, hy, hys⟩ := fill_sound _ _ z.cells _ (zeroCs z) hm1 hm2 hcs
    have hpr := run_placesT (P := P) C.w gs.toList pl hpl
    refine out_val hv hd (v := .agg ys) ?_ (.agg _ _ hys.1 fun i a v ha hv' => ?_)
    · have : (gs.mapM fun (f : Field) => (do pure (f.offset, ← sizeOf f.type) : Sem (Nat × Nat))).run P C.w = .ok pl.toArray C.w := by
        rw [Array.mapM_eq_mapM_toList]
        simp only [Sem.run_map, hpr, Result.andThen_ok]
      simp only [Instr.build, Sem.run_bind, run_zero hinf hz, run_underlying hdd, Result.andThen_ok, this]
      have hpp : (fun (x : Nat) => pl.toArray[x]?) = (fun (x : Nat) => pl[x]?) := by funext x; simp
      simp only [hpp, hy, Sem.run_pure]
    · obtain ⟨y, h1, h2⟩ := hys.2 i a ha
      rw [hv'] at h1
      cases h1
      exact h2
  · rename_i n e hk
    have hu := tk_arr hk
    subst hu
    replace h := rd_opt h; obtain ⟨ei, hei, h⟩ := h
    replace h := rd_opt h; obtain ⟨cs, hcs, h⟩ := h
    have hd := rd_val h
    obtain ⟨ie, de, ze, hie, hde, hze, rfl⟩ := tiOf_some hei
    obtain ⟨ys, hy, hys⟩ := fill_sound _ _ z.cells _ (zeroCs z) hm1 hm2 hcs
    refine out_val hv hd (v := .agg ys) ?_ (.agg _ _ hys.1 fun i a v ha hv' => ?_)
    · simp only at hy
      simp only [Instr.build, Sem.run_bind, run_zero hinf hz, run_underlying hdd, Result.andThen_ok, run_size hie, hy, Sem.run_pure]
    · obtain ⟨y, h1, h2⟩ := hys.2 i a ha
      rw [hv'] at h1
      cases h1
      exact h2
  · exact (rd_fail h).elim

end Go.AI

namespace Go.AI
variable {P : Program} {C : Cfg}

/-! ### Rows of zeros -/
/-- Cells of a whole row. -/
def RowRep (C : Cfg) (es : List (List AVal)) (sz : Nat) (cs : Array Value) : Prop :=
  (∀ e ∈ es, e.length = sz) ∧ es.length * sz = cs.size ∧ ∀ i j e a, es[i]? = some e → e[j]? = some a → ∃ v, cs[i * sz + j]? = some v ∧ VRep C a v

theorem zerosRow {z : Value} {sz : Nat} (hz : (ofVal z).cells.length = sz) (n : Nat) : RowRep C (List.replicate n (ofVal z).cells) sz ((Array.range (n * sz)).map fun i => z.cells[i % z.cells.size]!) := by
  rw [ofVal_cells] at hz
  refine ⟨fun e he => ?_, by simp, fun i j e a hi hj => ?_⟩
  · rw [(List.mem_replicate.1 he).2, ofVal_cells]; exact hz
  · rw [List.getElem?_replicate] at hi
    split at hi
    · rename_i hin
      cases hi
      obtain ⟨v, h1, h2⟩ := ofVal_cells_rep (C := C) z j a hj
      have hjs : j < sz := by rw [← hz]; exact (Array.getElem?_eq_some_iff.1 h1).1
      have hlt : i * sz + j < n * sz := by
        have : i * sz + sz ≤ n * sz := by rw [← Nat.succ_mul]; exact Nat.mul_le_mul_right _ hin
        omega
      refine ⟨v, ?_, h2⟩
      rw [Array.getElem?_map, Array.getElem?_range, if_pos hlt]
      simp only [Option.map_some, Option.some.injEq, hz]
      rw [Nat.mul_comm i sz, Nat.mul_add_mod, Nat.mod_eq_of_lt hjs, getElem!_def, h1]
    · cases hi

theorem sl_new {C' : Cfg} {nx G B sz n cap N : Nat} {T : TypeId} {es : List (List AVal)} {wr : Bool} (hι : C'.ι nx = some (B, 0)) (hK : C'.K G) (hh : C'.h nx = some (.row sz es G wr)) (hs : C'.w.shape? B = some (T, N))
    (hn : n ≤ es.length) (hc : n ≤ cap) (hN : cap * sz ≤ N) (hm : cap ≤ maxLen) : VRep C' (.sl nx G 0 n) (.slice (some ⟨B, 0, none⟩) n cap) := by
  refine .sl nx G 0 n _ _ _ hK fun sz' es' wr' hb => ?_
  rw [hh] at hb
  cases hb
  exact ⟨rfl, by omega, .inr ⟨B, 0, T, N, hι, by simp, hs, hc, by omega, hm⟩⟩

/-! ### Slice literals -/
theorem fillEs_sound {sz : Nat} : ∀ (parts : List (Nat × AVal)) (es : List (List AVal)) (xs : Array Value) (ps : List (Nat × Value)) {r : List (List AVal)}, RowRep C es sz xs →
    parts.map Prod.fst = ps.map Prod.fst → (∀ (i : Nat) (a : Nat × AVal) (v : Nat × Value), parts[i]? = some a → ps[i]? = some v → VRep C a.2 v.2) → fillEs sz es parts = some r →
    r.length = es.length ∧ ∃ ys, Instr.fill (fun i => some (i * sz, sz)) xs ps = some ys ∧ RowRep C r sz ys
  | [], es, xs, ps, r, h, hm, _, hr => by
    have : ps = [] := by simpa using hm.symm
    subst this
    simp only [fillEs, Option.some.injEq] at hr
    subst hr
    exact ⟨rfl, xs, rfl, h⟩
  | (i, a) :: parts, es, xs, ps, r, h, hm, hrep, hr => by
    cases ps with
    | nil => simp at hm
    | cons q ps =>
      obtain ⟨j, v⟩ := q
      simp only [List.map_cons, List.cons.injEq] at hm
      obtain ⟨rfl, hm⟩ := hm
      simp only [fillEs] at hr
      split at hr
      · rename_i hc
        obtain ⟨h1, h2, h3⟩ := hc
        have hav : VRep C a v := hrep 0 (i, a) (i, v) rfl rfl
        obtain ⟨hcl, hcr⟩ := cells_rep hav h3
        have hmul : i * sz + sz ≤ es.length * sz := by rw [← Nat.succ_mul]; exact Nat.mul_le_mul_right _ h2
        have hfit : i * sz + v.cells.toList.length ≤ xs.size := by rw [← h.2.1]; simp; omega
        have hrow : RowRep C (es.set i a.cells) sz (over xs (i * sz) v.cells.toList) := by
          refine ⟨fun e he => ?_, by rw [List.length_set, over_size hfit]; exact h.2.1, fun i' j' e x hi' hj' => ?_⟩
          · rcases List.mem_or_eq_of_mem_set he with he | rfl
            · exact h.1 e he
            · exact h1
          · by_cases hii : i' = i
            · subst hii
              rw [List.getElem?_set_self h2] at hi'
              cases hi'
              obtain ⟨y, hy1, hy2⟩ := hcr j' x hj'
              refine ⟨y, ?_, hy2⟩
              rw [over_in hfit (by simp; have := (Array.getElem?_eq_some_iff.1 hy1).1; omega), Array.getElem?_toList]
              exact hy1
            · rw [List.getElem?_set_ne (Ne.symm hii)] at hi'
              obtain ⟨y, hy1, hy2⟩ := h.2.2 i' j' e x hi' hj'
              refine ⟨y, ?_, hy2⟩
              have hjl : j' < sz := by rw [← h.1 e (List.mem_of_getElem? hi')]; exact (List.getElem?_eq_some_iff.1 hj').1
              have hnot : i' * sz + j' < i * sz ∨ i * sz + v.cells.toList.length ≤ i' * sz + j' := by
                simp only [Array.length_toList, ← hcl]
                rcases Nat.lt_or_gt_of_ne hii with hlt | hgt
                · left
                  have : i' * sz + sz ≤ i * sz := by rw [← Nat.succ_mul]; exact Nat.mul_le_mul_right _ hlt
                  omega
                · right
                  have : i * sz + sz ≤ i' * sz := by rw [← Nat.succ_mul]; exact Nat.mul_le_mul_right _ hgt
                  omega
              rw [over_out hfit hnot]
              exact hy1
        obtain ⟨hlen, ys, hy, hys⟩ := fillEs_sound parts _ _ ps hrow hm (fun k x y hx hy => hrep (k + 1) x y hx hy) hr
        refine ⟨by rw [hlen, List.length_set], ys, ?_, hys⟩
        have hs1 : v.cells.size = sz := by omega
        have hs2 : i * sz + v.cells.size ≤ xs.size := by simpa using hfit
        simp only [Instr.fill]
        rw [if_neg (by simp [hs1]; omega), fill_put (i * sz) v xs hs2]
        exact hy
      · cases hr

theorem buildSlice_sound (hv : Valid C) {nx G : Nat} (hf : ¬ C.K G) {t : TypeId} {len : Nat} {parts : Array (Nat × Operand)} {ρ : Operand → AVal} {ρc : Operand → Value} (hρ : ∀ x, VRep C (ρ x) (ρc x)) {d : Delta}
    (h : (buildSliceR P nx G t len (parts.toList.map fun p => (p.1, ρ p.2))).run C.h = some d) : OutV C G d ((Instr.buildSlice t len (parts.map fun (i, x) => (i, ρc x))).run P C.w) := by
  unfold buildSliceR at h
  replace h := rd_opt h; obtain ⟨ti, hti, h⟩ := h
  obtain ⟨inf, dd, z, hinf, hdd, hz, rfl⟩ := tiOf_some hti
  obtain ⟨hm1, hm2⟩ := parts_map hρ parts
  split at h
  · rename_i e hk
    have hu := tk_slice hk
    subst hu
    replace h := rd_opt h; obtain ⟨ei, hei, h⟩ := h
    obtain ⟨ie, de, ze, hie, hde, hze, rfl⟩ := tiOf_some hei
    replace h := rd_ifn h; obtain ⟨hcond, h⟩ := h
    replace h := rd_opt h; obtain ⟨es, hes, h⟩ := h
    have hd := rd_ret h
    simp only [not_or, Nat.not_lt, ne_eq, Decidable.not_not] at hcond hes hd
    obtain ⟨hs0, hlim, hzl⟩ := hcond
    obtain ⟨hlen, ys, hy, hys⟩ := fillEs_sound _ _ _ _ (zerosRow hzl len) hm1 hm2 hes
    rw [List.length_replicate] at hlen
    refine newRow_out (mk := fun b g => .sl b g 0 len) hv hf rfl rfl rfl rfl hd ys e (v := .slice (some ⟨C.w.heap.size, 0, none⟩) len len) ?_ hys.1 (by rw [hys.2.1]; exact Nat.le_refl _) hys.2.2
      fun C' h1 h2 h3 h4 => sl_new h1 h2 h3 h4 (by omega) (Nat.le_refl _) (by rw [← hys.2.1, hlen]; exact Nat.le_refl _) ?_
    · have hlim' : ¬ (len * ie.size > 2 ^ 24) := by omega
      by_cases hl0 : len = 0
      · subst hl0
        simp only [Nat.zero_mul] at hy hlim'
        have e3 : Array.range 0 = #[] := rfl
        have e1 : ∀ f : Nat → Value, (Array.range 0).map f = #[] := fun f => by rw [e3]; exact Array.map_empty
        rw [e1] at hy
        simp only [Instr.buildSlice, Sem.run_bind, run_underlying hdd, Result.andThen_ok, run_size hie, Nat.zero_mul, if_true, Sem.run_pure, gt_iff_lt, Nat.not_lt_zero, if_false, e1, hy]
        simp [Go.newRow]
      · have hne : ¬ (len * ie.size = 0) := by
          intro h0
          rcases Nat.mul_eq_zero.1 h0 with h0 | h0
          · exact hl0 h0
          · exact hs0 h0
        simp only [Instr.buildSlice, Sem.run_bind, run_underlying hdd, Result.andThen_ok, run_size hie, hlim', hne, if_false, run_zero hie hze, Sem.run_pure, hy]
        simp [Go.newRow]
    · have : len * 1 ≤ len * ie.size := Nat.mul_le_mul_left _ (by omega)
      unfold maxLen
      omega
  · exact (rd_fail h).elim

theorem makeSlice_sound (hv : Valid C) {nx G : Nat} (hf : ¬ C.K G) {t : TypeId} {l c : AVal} {vl vc : Value} (hl : VRep C l vl) (hc : VRep C c vc) {d : Delta} (h : (makeSliceR P nx G t l c).run C.h = some d) :
    OutV C G d ((Instr.makeSlice t vl vc).run P C.w) := by
  unfold makeSliceR at h
  replace h := rd_opt h; obtain ⟨ti, hti, h⟩ := h
  obtain ⟨inf, dd, z, hinf, hdd, hz, rfl⟩ := tiOf_some hti
  split at h
  · rename_i e l c hk
    cases hl
    cases hc
    have hu := tk_slice hk
    subst hu
    replace h := rd_opt h; obtain ⟨ei, hei, h⟩ := h
    obtain ⟨ie, de, ze, hie, hde, hze, rfl⟩ := tiOf_some hei
    replace h := rd_if h; obtain ⟨⟨hs0, hzl, h0, hlc, hroom⟩, h⟩ := h
    have hd := rd_ret h
    simp only [room] at hs0 hzl hroom hd
    obtain ⟨ln, rfl⟩ := Int.eq_ofNat_of_zero_le h0
    obtain ⟨cn, rfl⟩ := Int.eq_ofNat_of_zero_le (Int.le_trans h0 hlc)
    have hlc' : ln ≤ cn := by omega
    have hb1 : cn * max 1 ie.bytes ≤ 140737488355328 := by exact_mod_cast hroom
    have hcb : cn ≤ 140737488355328 := Nat.le_trans (Nat.le_mul_of_pos_right _ (by omega)) hb1
    have hbb : cn * ie.bytes ≤ 140737488355328 := Nat.le_trans (Nat.mul_le_mul_left _ (by omega)) hb1
    have hwl : IntKind.i64.wrap (ln : Int) = ln := IntWalk.i64_in _ (by omega)
    have hwc : IntKind.i64.wrap (cn : Int) = cn := IntWalk.i64_in _ (by omega)
    have hrow := zerosRow (C := C) (z := ze) hzl cn
    have hrow' : ∀ i j e a, (List.replicate ln (ofVal ze).cells)[i]? = some e → e[j]? = some a → ∃ v, ((Array.range (cn * ie.size)).map fun i => ze.cells[i % ze.cells.size]!)[i * ie.size + j]? = some v ∧ VRep C a v := by
      intro i j e a hi hj
      refine hrow.2.2 i j e a ?_ hj
      rw [List.getElem?_replicate] at hi ⊢
      split at hi
      · rw [if_pos (by omega)]; exact hi
      · cases hi
    simp only [Int.toNat_natCast] at hd
    refine newRow_out (mk := fun b g => .sl b g 0 ln) hv hf rfl rfl rfl rfl hd ((Array.range (cn * ie.size)).map fun i => ze.cells[i % ze.cells.size]!) e (v := .slice (some ⟨C.w.heap.size, 0, none⟩) ln cn) ?_
      (fun x hx => by rw [(List.mem_replicate.1 hx).2]; exact hzl) (by simp; exact Nat.mul_le_mul_right _ hlc') hrow'
      fun C' h1 h2 h3 h4 => sl_new h1 h2 h3 h4 (by simp) hlc' (by simp) (by unfold maxLen; omega)
    have hcond : ¬ ((decide ((cn : Int) < 0) || decide ((ie.bytes : Int) * (cn : Int) > 2 ^ 48) || decide ((ln : Int) < 0) || decide ((ln : Int) > (cn : Int))) = true) := by
      have hm : (ie.bytes : Int) * (cn : Int) = ((cn * ie.bytes : Nat) : Int) := by push_cast; exact Int.mul_comm _ _
      rw [hm]
      simp only [Bool.or_eq_true, decide_eq_true_eq]
      omega
    by_cases hc0 : cn * ie.size = 0
    · have e1 : (Array.range (cn * ie.size)).map (fun i => ze.cells[i % ze.cells.size]!) = (#[] : Array Value) := by rw [hc0]; simp
      rw [e1]
      simp only [Instr.makeSlice, Sem.run_bind, run_underlying hdd, Result.andThen_ok, asInt, asIntOf, Sem.run_pure, run_info hie, hwl, hwc, Int.toNat_natCast, hcond]
      have e4 : ∀ f : Nat → Value, (Array.range (cn * ie.size)).map f = #[] := fun f => by
        rw [hc0]
        have e3 : Array.range 0 = #[] := rfl
        rw [e3]; exact Array.map_empty
      simp [Go.newRow, run_size hie, e4]
      exact fun h => absurd hc0 h
    · simp only [Instr.makeSlice, Sem.run_bind, run_underlying hdd, Result.andThen_ok, asInt, asIntOf, Sem.run_pure, run_info hie, hwl, hwc, Int.toNat_natCast, hcond]
      simp [Go.newRow, run_size hie, hc0, run_zero hie hze]
  · exact (rd_fail h).elim

/-! ### Operators -/
theorem unary_sound {op : UnOp} {x a : AVal} {vx : Value} (hx : VRep C x vx) (h : unA op x = some a) (w : World) : ∃ v, (Op.unary op vx).run P w = .ok v w ∧ VRep C a v := by
  cases op <;> cases hx <;> simp only [unA, reduceCtorEq, Option.some.injEq] at h <;> subst h
  · exact ⟨_, rfl, .int _ _⟩
  · exact ⟨_, rfl, .bool _⟩

theorem part_sound {t : TypeId} {ti : TI} (hti : tiOf P t = some ti) {xs : List AVal} {vs : Array Value} (hx : VRep C (.agg xs) (.agg vs)) {off : Nat} {a : AVal} (h : partA ti.agg ti.size off xs = some a) (w : World) :
    ∃ u, (part t vs off).run P w = .ok u w ∧ VRep C a u := by
  cases hx with
  | agg cs vs hl hr => exact part_run hti hl hr h w

theorem eqT_sound : ∀ (d : Nat) (t : TypeId) (x y : AVal) (vx vy : Value) (r : Bool), VRep C x vx → VRep C y vy → eqT P d t x y = some r → ∀ D, d ≤ D → ∀ w, (Op.equalIn D t vx vy).run P w = .ok r w
  | 0, _, _, _, _, _, _, _, _, h, _, _, _ => by simp [eqT] at h
  | d + 1, t, x, y, vx, vy, r, hx, hy, h, D, hD, w => by
    obtain ⟨D, rfl⟩ : ∃ k, D = k + 1 := ⟨D - 1, by omega⟩
    simp only [eqT] at h
    cases hti : tiOf P t with
    | none => rw [hti] at h; cases h
    | some ti =>
      rw [hti] at h
      obtain ⟨i, dd, z, hi, hdd, hz, rfl⟩ := tiOf_some hti
      simp only at h
      split at h
      · rename_i k' k a k2 b hk
        have hu := tk_int hk
        subst hu
        split at h
        · rename_i e
          subst e
          cases h
          cases hx; cases hy
          exact run_equalIn_int w D t k k' a b hdd
        · cases h
      · rename_i a b hk
        have hu := tk_bool hk
        subst hu
        cases h
        cases hx; cases hy
        exact run_equalIn_bool' w D t a b hdd
      · rename_i fs xs ys hk
        obtain ⟨gs, rfl, rfl⟩ := tk_strct hk
        split at h
        · cases h
        · rename_i hst
          cases hx with
          | agg xs vs hl hr =>
          cases hy with
          | agg ys us hl' hr' =>
            have hfo : P.fieldsOf t = gs := by simp [Program.fieldsOf, hdd]
            rw [run_equalIn_struct w D t vs us (by rw [hfo]; exact hdd) (by simpa using hst), hfo]
            have hX := VRep.agg (C := C) xs vs hl hr
            have hY := VRep.agg (C := C) ys us hl' hr'
            generalize gs.toList = fl at h
            clear hk hfo hdd
            induction fl with
            | nil => simp only [List.map_nil, eqFs, Option.some.injEq] at h; subst h; rfl
            | cons f fl ih =>
              simp only [List.map_cons, eqFs] at h
              split at h
              · cases h
              · rename_i hname
                cases htf : tiOf P f.type with
                | none => rw [htf] at h; cases h
                | some fi =>
                  rw [htf] at h
                  simp only at h
                  cases hp1 : partA fi.agg fi.size f.offset xs with
                  | none => rw [hp1] at h; simp at h
                  | some a =>
                    cases hp2 : partA fi.agg fi.size f.offset ys with
                    | none => rw [hp1, hp2] at h; simp at h
                    | some b =>
                      rw [hp1, hp2] at h
                      simp only at h
                      obtain ⟨u1, hu1, hr1⟩ := part_sound htf hX hp1 w
                      obtain ⟨u2, hu2, hr2⟩ := part_sound htf hY hp2 w
                      have hnm : f.name ≠ "_" := by simpa using hname
                      cases he : eqT P d f.type a b with
                      | none => rw [he] at h; simp at h
                      | some q =>
                        rw [he] at h
                        have := eqT_sound d f.type a b u1 u2 q hr1 hr2 he D (by omega) w
                        cases q with
                        | true =>
                          simp only at h
                          have ih' := ih h
                          simp only [Op.eqFields, ne_eq, hnm, not_false_eq_true, if_true, Sem.run_bind, hu1, hu2, Result.andThen_ok, this, Bool.not_true, Bool.false_eq_true, if_false]
                          exact ih'
                        | false =>
                          simp only [Option.some.injEq] at h
                          subst h
                          simp [Op.eqFields, hnm, hu1, hu2, this]
      · cases h

theorem run_guard_scalar (op : BinOp) (t : TypeId) (x y : Operand) {a b : Value} (h : ∀ cs ds, a = .agg cs → b = .agg ds → False) (h' : a = .nilIface → False) (w : World) : (eqGuard op t x y a b).run P w = .ok () w := by
  unfold eqGuard
  cases op <;> first | rfl | (cases a <;> cases b <;> first | rfl | exact (h _ _ rfl rfl).elim | exact (h' rfl).elim)

theorem slice_nil {es : List (List AVal)} {ex : Bool} {v : Value} (h : VRep C (.il es ex) v) : ∃ p n c, v = .slice p n c ∧ (es ≠ [] → p.isSome = true) := by
  cases h with
  | il es ex p cap B o sz vs hcap hex hmax hp hsz hvs hc => exact ⟨p, _, cap, rfl, fun hne => by rw [hp hne]; rfl⟩

theorem isSlice_spec {t : TypeId} (h : isSlice P t = true) : ∃ e, P.underlying t = some (.slice e) := by
  unfold isSlice at h
  cases hti : tiOf P t with
  | none => rw [hti] at h; cases h
  | some ti =>
    rw [hti] at h
    obtain ⟨i, dd, z, hi, hdd, hz, rfl⟩ := tiOf_some hti
    simp only at h
    split at h
    · rename_i e hk
      exact ⟨e, by rw [hdd, tk_slice hk]⟩
    · cases h

theorem bin_sound {op : BinOp} {t : TypeId} {ox oy : Operand} {x y a : AVal} {vx vy : Value} (hx : VRep C x vx) (hy : VRep C y vy) (h : binA P op t x y = some a) (w : World) :
    ∃ v, (do eqGuard op t ox oy vx vy; binOp op t vx vy : Sem Value).run P w = .ok v w ∧ VRep C a v := by
  unfold binA at h
  split at h
  · -- shl
    cases hx; cases hy
    unfold shiftA at h
    split at h
    · cases h
    · rename_i hb
      simp only [Option.some.injEq] at h
      subst h
      refine ⟨_, ?_, .int _ _⟩
      simp only [Sem.run_bind, run_guard_scalar .shl t ox oy (a := .int _ _) (b := .int _ _) (by simp) (by simp), Result.andThen_ok, binOp, Op.shift, hb, if_false, Sem.run_pure]
  · cases hx; cases hy
    unfold shiftA at h
    split at h
    · cases h
    · rename_i hb
      simp only [Option.some.injEq] at h
      subst h
      refine ⟨_, ?_, .int _ _⟩
      simp only [Sem.run_bind, run_guard_scalar .shr t ox oy (a := .int _ _) (b := .int _ _) (by simp) (by simp), Result.andThen_ok, binOp, Op.shift, hb, if_false, Sem.run_pure]
  · cases hx; cases hy
    split at h
    · rename_i e
      subst e
      unfold andA at h
      split at h
      · rename_i k' n he
        cases h
        refine ⟨.int k' n, ?_, .int _ _⟩
        have hg := run_guard_scalar (P := P) .and t ox oy (a := .int ‹IntKind› ‹Int›) (b := .int ‹IntKind› ‹Int›) (by simp) (by simp) w
        simp only [Sem.run_bind, run_guard_scalar .and t ox oy (a := .int _ _) (b := .int _ _) (by simp) (by simp), Result.andThen_ok, binOp, ne_eq, not_true_eq_false, if_false, he]
        rfl
      · cases h
    · cases h
  · rename_i op' k1 a1 k2 b1 _ _ _
    cases hx; cases hy
    split at h
    · rename_i e
      subst e
      have hg := run_guard_scalar (P := P) op t ox oy (a := .int k1 a1) (b := .int k1 b1) (by simp) (by simp) w
      cases op <;> simp only [arithA, reduceCtorEq, Option.some.injEq] at h <;>
        first
        | (subst h; (first | refine ⟨_, ?_, .int _ _⟩ | refine ⟨_, ?_, .bool _⟩); simp only [Sem.run_bind, hg, Result.andThen_ok, binOp, ne_eq, not_true_eq_false, if_false, Op.intArith, Op.intCmp, Sem.run_pure])
        | (split at h
           · cases h
           · rename_i hb
             cases h
             refine ⟨_, ?_, .int _ _⟩; simp only [Sem.run_bind, hg, Result.andThen_ok, binOp, ne_eq, not_true_eq_false, if_false, Op.intDiv, hb, Sem.run_pure])
    · cases h
  · rename_i a b
    have hg := run_guard_scalar (P := P) .eql t ox oy (a := vx) (b := vy) (by cases hx; simp) (by cases hx; simp) w
    cases he : eqT P eqD t (.bool a) (.bool b) with
    | none => rw [he] at h; cases h
    | some r =>
      rw [he] at h
      cases h
      have := eqT_sound eqD t _ _ vx vy r hx hy he Op.maxDepth (by decide) w
      refine ⟨.bool r, ?_, .bool _⟩
      cases hx; cases hy
      simp only [Sem.run_bind, hg, Result.andThen_ok, binOp, Op.equal, this, Sem.run_pure]
  · rename_i a b
    have hg := run_guard_scalar (P := P) .neq t ox oy (a := vx) (b := vy) (by cases hx; simp) (by cases hx; simp) w
    cases he : eqT P eqD t (.bool a) (.bool b) with
    | none => rw [he] at h; cases h
    | some r =>
      rw [he] at h
      cases h
      have := eqT_sound eqD t _ _ vx vy r hx hy he Op.maxDepth (by decide) w
      refine ⟨.bool (!r), ?_, .bool _⟩
      cases hx; cases hy
      simp only [Sem.run_bind, hg, Result.andThen_ok, binOp, Op.equal, this, Sem.run_pure]
  · rename_i as bs
    split at h
    · cases h
    · rename_i hgd
      cases he : eqT P eqD t (.agg as) (.agg bs) with
      | none => rw [he] at h; cases h
      | some r =>
        rw [he] at h
        cases h
        have := eqT_sound eqD t _ _ vx vy r hx hy he Op.maxDepth (by decide) w
        refine ⟨.bool r, ?_, .bool _⟩
        cases hx; cases hy
        simp only [Sem.run_bind, run_eqGuard_agg w .eql t ox oy _ _ (by simpa using hgd), Result.andThen_ok, binOp, Op.equal, this, Sem.run_pure]
  · rename_i as bs
    split at h
    · cases h
    · rename_i hgd
      cases he : eqT P eqD t (.agg as) (.agg bs) with
      | none => rw [he] at h; cases h
      | some r =>
        rw [he] at h
        cases h
        have := eqT_sound eqD t _ _ vx vy r hx hy he Op.maxDepth (by decide) w
        refine ⟨.bool (!r), ?_, .bool _⟩
        cases hx; cases hy
        simp only [Sem.run_bind, run_eqGuard_agg w .neq t ox oy _ _ (by simpa using hgd), Result.andThen_ok, binOp, Op.equal, this, Sem.run_pure]
  · cases h

theorem isNil_spec {o : Operand} (h : isNilSlice o = true) : o = .const (.slice none 0 0) := by
  unfold isNilSlice at h
  split at h
  · rfl
  · cases h

theorem nil_sound {op : BinOp} {t : TypeId} {ox oy : Operand} {x a : AVal} {vx : Value} (hx : VRep C x vx) (h : nilA P op t x = some a) (w : World) :
    ∃ v, (do eqGuard op t ox oy vx (.slice none 0 0); binOp op t vx (.slice none 0 0) : Sem Value).run P w = .ok v w ∧ VRep C a v := by
  unfold nilA at h
  split at h
  · rename_i es ex
    split at h
    · rename_i hs
      obtain ⟨e, ht⟩ := isSlice_spec hs
      obtain ⟨p, n, c, rfl, hp⟩ := slice_nil hx
      refine ⟨.bool p.isNone, ?_, ?_⟩
      · simp only [Sem.run_bind, run_guard_scalar .eql t ox oy (a := .slice p n c) (b := .slice none 0 0) (by simp) (by simp), Result.andThen_ok, Lib.run_eql_slice_nil w t e p n c 0 0 ht]
      · cases h
        cases es with
        | nil => exact .anyb _
        | cons e es =>
          obtain ⟨p', rfl⟩ := Option.isSome_iff_exists.1 (hp (by simp))
          exact .bool _
    · cases h
  · rename_i es ex
    split at h
    · rename_i hs
      obtain ⟨e, ht⟩ := isSlice_spec hs
      obtain ⟨p, n, c, rfl, hp⟩ := slice_nil hx
      refine ⟨.bool (!p.isNone), ?_, ?_⟩
      · simp only [Sem.run_bind, run_guard_scalar .neq t ox oy (a := .slice p n c) (b := .slice none 0 0) (by simp) (by simp), Result.andThen_ok, run_neq_slice_nil_any w t e p n c 0 0 ht]
      · cases h
        cases es with
        | nil => exact .anyb _
        | cons e es =>
          obtain ⟨p', rfl⟩ := Option.isSome_iff_exists.1 (hp (by simp))
          exact .bool _
    · cases h
  · cases h

end Go.AI

namespace Go.AI
variable {P : Program} {C : Cfg}

/-! ### Keys -/
theorem run_check_struct (e : Bool) (d : Nat) (t : TypeId) (gs : Array Field) (cs : Array Value) (ht : P.underlying t = some (.struct gs)) (w : World) (ok : ∀ f ∈ gs.toList, f.name ≠ "_" → ∃ u, (part f.type cs f.offset).run P w = .ok u w ∧ (Instr.checkKey e d f.type u).run P w = .ok () w) :
    (Instr.checkKey e (d + 1) t (.agg cs)).run P w = .ok () w := by
  simp only [Instr.checkKey, Sem.run_bind, run_underlying ht, Result.andThen_ok]
  rw [← Array.forIn_toList]
  generalize gs.toList = fs at ok
  clear ht
  induction fs with
  | nil => rfl
  | cons f fs ih =>
    simp only [List.forIn_cons, Sem.run_bind]
    have ih' := ih (fun g hg => ok g (List.mem_cons_of_mem _ hg))
    by_cases hn : f.name ≠ "_"
    · obtain ⟨u, h1, h2⟩ := ok f List.mem_cons_self hn
      simp only [hn, not_false_eq_true, if_true, Sem.run_bind, h1, h2, Result.andThen_ok, Sem.run_pure, ne_eq]
      exact ih'
    · simp only [hn, if_false, Result.andThen_ok, Sem.run_pure]
      exact ih'

theorem keyT_sound : ∀ (d : Nat) (t : TypeId) (x : AVal) (vx : Value), VRep C x vx → keyT P d t x = true → ∀ D, d ≤ D → ∀ e w, (Instr.checkKey e D t vx).run P w = .ok () w
  | 0, _, _, _, _, h, _, _, _, _ => by simp [keyT] at h
  | d + 1, t, x, vx, hx, h, D, hD, e, w => by
    obtain ⟨D, rfl⟩ : ∃ k, D = k + 1 := ⟨D - 1, by omega⟩
    simp only [keyT] at h
    cases hti : tiOf P t with
    | none => rw [hti] at h; cases h
    | some ti =>
      rw [hti] at h
      obtain ⟨i, dd, z, hi, hdd, hz, rfl⟩ := tiOf_some hti
      simp only at h
      split at h
      · rename_i k' k a hk
        have hu := tk_int hk
        subst hu
        cases hx
        simp only [Instr.checkKey, Sem.run_bind, run_underlying hdd, Result.andThen_ok, Sem.run_pure]
      · rename_i b hk
        have hu := tk_bool hk
        subst hu
        cases hx
        simp only [Instr.checkKey, Sem.run_bind, run_underlying hdd, Result.andThen_ok, Sem.run_pure]
      · rename_i fs xs hk
        obtain ⟨gs, rfl, rfl⟩ := tk_strct hk
        have hx0 := hx
        cases hx with
        | agg xs vs hl hr =>
          refine run_check_struct e D t gs vs hdd w ?_
          generalize gs.toList = fl at h
          clear hk hdd
          induction fl with
          | nil => intro f hf; cases hf
          | cons f fl ih =>
            simp only [List.map_cons, keyFs, Bool.and_eq_true] at h
            obtain ⟨_, h⟩ := h
            cases htf : tiOf P f.type with
            | none => rw [htf] at h; cases h
            | some fi =>
              rw [htf] at h
              simp only at h
              cases hp : partA fi.agg fi.size f.offset xs with
              | none => rw [hp] at h; cases h
              | some a =>
                rw [hp] at h
                simp only [Bool.and_eq_true] at h
                intro g hg hn
                rcases List.mem_cons.1 hg with rfl | hg
                · obtain ⟨u, hu, hru⟩ := part_sound htf hx0 hp w
                  exact ⟨u, hu, keyT_sound d _ a u hru h.1 D (by omega) e w⟩
                · exact ih h.2 g hg hn
      · cases h

/-- Where a key is found first. -/
def findI (eq : AVal → AVal → Option Bool) (k : AVal) : List (AVal × AVal) → Option (Option Nat)
  | [] => some none
  | (x, _) :: es => match eq k x with
    | some true => some (some 0)
    | some false => (findI eq k es).map fun o => o.map (· + 1)
    | none => none

theorem findA_I {eq : AVal → AVal → Option Bool} {k : AVal} : ∀ {es : List (AVal × AVal)} {r : Option AVal}, findA eq k es = some r →
    ∃ o, findI eq k es = some o ∧ (o = none ∧ r = none ∨ ∃ i x v, o = some i ∧ es[i]? = some (x, v) ∧ r = some v)
  | [], r, h => by
    simp only [findA, Option.some.injEq] at h
    exact ⟨none, rfl, .inl ⟨rfl, h.symm⟩⟩
  | (x, v) :: es, r, h => by
    simp only [findA] at h
    cases he : eq k x with
    | none => rw [he] at h; cases h
    | some b =>
      rw [he] at h
      cases b with
      | true =>
        simp only [Option.some.injEq] at h
        exact ⟨some 0, by simp [findI, he], .inr ⟨0, x, v, rfl, rfl, h.symm⟩⟩
      | false =>
        simp only at h
        obtain ⟨o, ho, hc⟩ := findA_I h
        refine ⟨o.map (· + 1), by simp [findI, he, ho], ?_⟩
        rcases hc with ⟨rfl, hr⟩ | ⟨i, y, u, rfl, hi, hr⟩
        · exact .inl ⟨rfl, hr⟩
        · exact .inr ⟨i + 1, y, u, rfl, hi, hr⟩

theorem upsert_I {eq : AVal → AVal → Option Bool} {k v : AVal} : ∀ {es r : List (AVal × AVal)}, upsertA eq k v es = some r →
    ∃ o, findI eq k es = some o ∧ (o = none ∧ r = es ++ [(k, v)] ∨ ∃ i x u, o = some i ∧ es[i]? = some (x, u) ∧ sameA k x = true ∧ r = es.set i (k, v))
  | [], r, h => by
    simp only [upsertA, Option.some.injEq] at h
    exact ⟨none, rfl, .inl ⟨rfl, h.symm⟩⟩
  | (x, u) :: es, r, h => by
    simp only [upsertA] at h
    cases he : eq k x with
    | none => rw [he] at h; cases h
    | some b =>
      rw [he] at h
      cases b with
      | true =>
        simp only at h
        split at h
        · rename_i hs
          simp only [Option.some.injEq] at h
          exact ⟨some 0, by simp [findI, he], .inr ⟨0, x, u, rfl, rfl, hs, h.symm⟩⟩
        · cases h
      | false =>
        simp only at h
        cases hr : upsertA eq k v es with
        | none => rw [hr] at h; cases h
        | some r' =>
          rw [hr] at h
          simp only [Option.map_some, Option.some.injEq] at h
          obtain ⟨o, ho, hc⟩ := upsert_I hr
          refine ⟨o.map (· + 1), by simp [findI, he, ho], ?_⟩
          rcases hc with ⟨rfl, hr⟩ | ⟨i, y, u', rfl, hi, hs, hr⟩
          · exact .inl ⟨rfl, by rw [← h, hr]; rfl⟩
          · exact .inr ⟨i + 1, y, u', rfl, hi, hs, by rw [← h, hr]; rfl⟩

theorem erase_I {eq : AVal → AVal → Option Bool} {k : AVal} : ∀ {es r : List (AVal × AVal)}, eraseA eq k es = some r →
    ∃ o, findI eq k es = some o ∧ (o = none ∧ r = es ∨ ∃ i, o = some i ∧ i < es.length ∧ r = es.eraseIdx i)
  | [], r, h => by
    simp only [eraseA, Option.some.injEq] at h
    exact ⟨none, rfl, .inl ⟨rfl, h.symm⟩⟩
  | (x, u) :: es, r, h => by
    simp only [eraseA] at h
    cases he : eq k x with
    | none => rw [he] at h; cases h
    | some b =>
      rw [he] at h
      cases b with
      | true =>
        simp only [Option.some.injEq] at h
        exact ⟨some 0, by simp [findI, he], .inr ⟨0, rfl, by simp, by rw [← h]; rfl⟩⟩
      | false =>
        simp only at h
        cases hr : eraseA eq k es with
        | none => rw [hr] at h; cases h
        | some r' =>
          rw [hr] at h
          simp only [Option.map_some, Option.some.injEq] at h
          obtain ⟨o, ho, hc⟩ := erase_I hr
          refine ⟨o.map (· + 1), by simp [findI, he, ho], ?_⟩
          rcases hc with ⟨rfl, hr⟩ | ⟨i, rfl, hi, hr⟩
          · exact .inl ⟨rfl, by rw [← h, hr]⟩
          · exact .inr ⟨i + 1, rfl, by simp; exact hi, by rw [← h, hr]; rfl⟩

theorem sameNow_eq {d : Nat} {t : TypeId} {dd : TypeDesc} (hdd : P.underlying t = some dd) {x y : AVal} {vx vy : Value} (hx : VRep C x vx) (hy : VRep C y vy) {b b' : Bool} (h : Instr.sameNow dd vx vy = some b) (h' : eqT P d t x y = some b') : b' = b := by
  cases d with
  | zero => simp [eqT] at h'
  | succ d =>
    simp only [eqT] at h'
    cases hti : tiOf P t with
    | none => rw [hti] at h'; cases h'
    | some ti =>
      rw [hti] at h'
      obtain ⟨i, dd', z, hi, hdd', hz, rfl⟩ := tiOf_some hti
      rw [hdd] at hdd'
      cases hdd'
      simp only at h'
      split at h'
      · rename_i hk
        have hu := tk_int hk
        subst hu
        cases hx; cases hy
        simp only [Instr.sameNow] at h
        split at h'
        · rename_i e; subst e
          rw [if_pos rfl] at h
          cases h; cases h'; rfl
        · cases h'
      · rename_i hk
        have hu := tk_bool hk
        subst hu
        cases hx; cases hy
        simp only [Instr.sameNow, Option.some.injEq] at h h'
        rw [← h, ← h']
      · rename_i hk
        obtain ⟨gs, rfl, rfl⟩ := tk_strct hk
        simp [Instr.sameNow] at h
      · cases h'

theorem findNow_sound {d : Nat} {t : TypeId} {dd : TypeDesc} (hdd : P.underlying t = some dd) {k : AVal} {vk : Value} (hk : VRep C k vk) : ∀ (es : List (AVal × AVal)) (l : List MapEntry), l.length = es.length →
    (∀ (i : Nat) k v (e : MapEntry), es[i]? = some (k, v) → l[i]? = some e → VRep C k e.key) → ∀ (j : Nat) {o : Option Nat} {r : Option (Nat × Value)}, findI (eqT P d t) k es = some o → Instr.findNow dd vk l j = some r →
    (o = none → r = none) ∧ ∀ i, o = some i → ∃ e, l[i]? = some e ∧ r = some (j + i, e.val)
  | [], l, hl, _, j, o, r, ho, hr => by
    have : l = [] := by simpa using hl
    subst this
    simp only [findI, Option.some.injEq] at ho
    simp only [Instr.findNow, Option.some.injEq] at hr
    subst ho; subst hr
    exact ⟨fun _ => rfl, fun i h => by cases h⟩
  | (x, v) :: es, [], hl, _, _, _, _, _, _ => by simp at hl
  | (x, v) :: es, e :: l, hl, hrep, j, o, r, ho, hr => by
    simp only [findI] at ho
    simp only [Instr.findNow] at hr
    have hx : VRep C x e.key := hrep 0 x v e rfl rfl
    cases hs : Instr.sameNow dd vk e.key with
    | none => rw [hs] at hr; cases hr
    | some b =>
      rw [hs] at hr
      cases he : eqT P d t k x with
      | none => rw [he] at ho; cases ho
      | some b' =>
        obtain rfl := sameNow_eq hdd hk hx hs he
        rw [he] at ho
        cases b' with
        | true =>
          simp only [Option.some.injEq] at ho hr
          subst ho; subst hr
          exact ⟨fun h => (by cases h), fun i h => (by cases h; exact ⟨e, rfl, rfl⟩)⟩
        | false =>
          simp only at ho hr
          cases hf : findI (eqT P d t) k es with
          | none => rw [hf] at ho; cases ho
          | some o' =>
            rw [hf] at ho
            simp only [Option.map_some, Option.some.injEq] at ho
            obtain ⟨h1, h2⟩ := findNow_sound hdd hk es l (by simpa using hl) (fun i k v e hi he => hrep (i + 1) k v e hi he) (j + 1) hf hr
            subst ho
            refine ⟨fun h => h1 (by cases o' with | none => rfl | some _ => cases h), fun i h => ?_⟩
            cases o' with
            | none => cases h
            | some i' =>
              simp only [Option.map_some, Option.some.injEq] at h
              subst h
              obtain ⟨e', h3, h4⟩ := h2 i' rfl
              exact ⟨e', h3, by rw [h4]; congr 2; omega⟩

theorem findAsking_sound {t : TypeId} {k : AVal} {vk : Value} (hk : VRep C k vk) (w : World) : ∀ (es : List (AVal × AVal)) (l : List MapEntry), l.length = es.length →
    (∀ (i : Nat) k v (e : MapEntry), es[i]? = some (k, v) → l[i]? = some e → VRep C k e.key) → ∀ (j : Nat) {o : Option Nat}, findI (eqT P eqD t) k es = some o →
    ∃ r, (Instr.findAsking t vk l j).run P w = .ok r w ∧ (o = none → r = none) ∧ ∀ i, o = some i → ∃ e, l[i]? = some e ∧ r = some (j + i, e.val)
  | [], l, hl, _, j, o, ho => by
    have : l = [] := by simpa using hl
    subst this
    simp only [findI, Option.some.injEq] at ho
    subst ho
    exact ⟨none, rfl, fun _ => rfl, fun i h => by cases h⟩
  | (x, v) :: es, [], hl, _, _, _, _ => by simp at hl
  | (x, v) :: es, e :: l, hl, hrep, j, o, ho => by
    simp only [findI] at ho
    have hx : VRep C x e.key := hrep 0 x v e rfl rfl
    cases he : eqT P eqD t k x with
    | none => rw [he] at ho; cases ho
    | some b =>
      rw [he] at ho
      have hrun := eqT_sound eqD t _ _ vk e.key b hk hx he Op.maxDepth (by decide) w
      cases b with
      | true =>
        simp only [Option.some.injEq] at ho
        subst ho
        refine ⟨some (j, e.val), by simp only [Instr.findAsking, Sem.run_bind, Op.equal, hrun, Result.andThen_ok, if_true, Sem.run_pure], fun h => (by cases h), fun i h => ?_⟩
        cases h
        exact ⟨e, rfl, rfl⟩
      | false =>
        simp only at ho
        cases hf : findI (eqT P eqD t) k es with
        | none => rw [hf] at ho; cases ho
        | some o' =>
          rw [hf] at ho
          simp only [Option.map_some, Option.some.injEq] at ho
          obtain ⟨r, hr, h1, h2⟩ := findAsking_sound hk w es l (by simpa using hl) (fun i k v e hi he => hrep (i + 1) k v e hi he) (j + 1) hf
          subst ho
          refine ⟨r, by simp only [Instr.findAsking, Sem.run_bind, Op.equal, hrun, Result.andThen_ok, Bool.false_eq_true, if_false, hr], fun h => h1 (by cases o' with | none => rfl | some _ => cases h), fun i h => ?_⟩
          cases o' with
          | none => cases h
          | some i' =>
            simp only [Option.map_some, Option.some.injEq] at h
            subst h
            obtain ⟨e', h3, h4⟩ := h2 i' rfl
            exact ⟨e', h3, by rw [h4]; congr 2; omega⟩

theorem findKey_sound {t : TypeId} {ti : TI} (hti : tiOf P t = some ti) {k : AVal} {vk : Value} (hk : VRep C k vk) (w : World) (es : List (AVal × AVal)) (l : List MapEntry) (hl : l.length = es.length)
    (hrep : ∀ (i : Nat) k v (e : MapEntry), es[i]? = some (k, v) → l[i]? = some e → VRep C k e.key) {o : Option Nat} (ho : findI (eqT P eqD t) k es = some o) :
    ∃ r, (Instr.findKey t vk l).run P w = .ok r w ∧ (o = none → r = none) ∧ ∀ i, o = some i → ∃ e, l[i]? = some e ∧ r = some (i, e.val) := by
  obtain ⟨inf, dd, z, hi, hdd, hz, rfl⟩ := tiOf_some hti
  cases hn : Instr.findNow dd vk l 0 with
  | some r =>
    obtain ⟨h1, h2⟩ := findNow_sound hdd hk es l hl hrep 0 ho hn
    refine ⟨r, by simp only [Instr.findKey, Sem.run_bind, run_underlying hdd, Result.andThen_ok, hn, Sem.run_pure], h1, fun i h => ?_⟩
    obtain ⟨e, h3, h4⟩ := h2 i h
    exact ⟨e, h3, by rw [h4, Nat.zero_add]⟩
  | none =>
    obtain ⟨r, hr, h1, h2⟩ := findAsking_sound hk w es l hl hrep 0 ho
    refine ⟨r, by simp only [Instr.findKey, Sem.run_bind, run_underlying hdd, Result.andThen_ok, hn, hr], h1, fun i h => ?_⟩
    obtain ⟨e, h3, h4⟩ := h2 i h
    exact ⟨e, h3, by rw [h4, Nat.zero_add]⟩

/-! ### A map's block -/
theorem mp_live {b g : Nat} {v : Value} (h : VRep C (.mp b g) v) (hv : Valid C) {es : List (AVal × AVal)} {ver : Nat} (hb : C.h b = some (.map es g ver)) :
    ∃ B ents clock, v = .map (some B) ∧ C.ι b = some (B, 0) ∧ C.w.heap[B]? = some (.map ents clock) ∧ ents.size = es.length ∧
      (∀ (i : Nat) k v (e : MapEntry), es[i]? = some (k, v) → ents[i]? = some e → VRep C k e.key ∧ VRep C v e.val) ∧
      (∀ (i j : Nat) (e f : MapEntry), ents[i]? = some e → ents[j]? = some f → e.born = f.born → i = j) ∧ (∀ (i : Nat) (e : MapEntry), ents[i]? = some e → e.born < clock) := by
  obtain ⟨hK, B, ents, clock, hi, hat, rest⟩ := hv.obj b _ hb
  cases h with
  | mp b g r hk h =>
    obtain ⟨B', hi', rfl⟩ := h es ver hb
    rw [hi] at hi'
    cases hi'
    exact ⟨B, ents, clock, rfl, hi, hat, rest⟩

theorem lookRes_out (hv : Valid C) {nx G : Nat} {zero : AVal} {z : Value} (hz : VRep C zero z) {ok : Bool} {r : Option AVal} {rc : Option (Nat × Value)} (hr : (r = none ∧ rc = none) ∨ ∃ v i u, r = some v ∧ rc = some (i, u) ∧ VRep C v u) {d : Delta}
    (h : (lookRes nx G zero ok r).run C.h = some d) {s : Result Value} (hs : s = .ok (if ok then .tuple #[(rc.map (·.2)).getD z, .bool rc.isSome] else (rc.map (·.2)).getD z) C.w) : OutV C G d s := by
  have hd := rd_val h
  refine out_val hv hd hs ?_
  have hrep : VRep C (r.getD zero) ((rc.map (·.2)).getD z) := by
    rcases hr with ⟨rfl, rfl⟩ | ⟨v, i, u, rfl, rfl, h⟩
    · exact hz
    · exact h
  have hso : r.isSome = rc.isSome := by
    rcases hr with ⟨rfl, rfl⟩ | ⟨v, i, u, rfl, rfl, h⟩ <;> rfl
  cases ok with
  | false => exact hrep
  | true =>
    refine .tup _ _ rfl fun i a v ha hv' => ?_
    rcases i with _ | _ | i
    · simp at ha hv'
      subst ha; subst hv'
      exact hrep
    · simp at ha hv'
      subst ha; subst hv'
      rw [hso]; exact .bool _
    · simp at ha

theorem lookup_sound (hv : Valid C) {nx G : Nat} {t : TypeId} {m k : AVal} {vm vk : Value} (hm : VRep C m vm) (hk : VRep C k vk) {ok : Bool} {d : Delta} (h : (lookupR P nx G t m k ok).run C.h = some d) :
    OutV C G d ((Instr.lookup t vm vk ok).run P C.w) := by
  unfold lookupR at h
  replace h := rd_opt h; obtain ⟨ti, hti, h⟩ := h
  obtain ⟨inf, dd, z, hinf, hdd, hz, rfl⟩ := tiOf_some hti
  simp only at h
  split at h
  case h_2 => exact (rd_fail h).elim
  rename_i kt e hkk
  have hu := tk_map hkk
  subst hu
  replace h := rd_opt h; obtain ⟨ei, hei, h⟩ := h
  replace h := rd_ifn h; obtain ⟨hkey, h⟩ := h
  simp only [Bool.not_eq_false] at hkey
  obtain ⟨ie, de, ze, hie, hde, hze, rfl⟩ := tiOf_some hei
  have hck := fun e w => keyT_sound (P := P) eqD kt k vk hk hkey 10000 (by decide) e w
  have htk : ∃ tk, tiOf P kt = some tk := by
    cases hq : tiOf P kt with
    | some tk => exact ⟨tk, rfl⟩
    | none =>
      have : eqD = 5 + 1 := rfl
      rw [this] at hkey
      simp [keyT, hq] at hkey
  obtain ⟨tk, htk⟩ := htk
  have core : ∀ (es : List (AVal × AVal)) (ents : Array MapEntry) (r : Option AVal), ents.size = es.length → (∀ (i : Nat) k v (e : MapEntry), es[i]? = some (k, v) → ents[i]? = some e → VRep C k e.key ∧ VRep C v e.val) →
      findA (eqT P eqD kt) k es = some r → ∃ rc, (Instr.findKey kt vk ents.toList).run P C.w = .ok rc C.w ∧ ((r = none ∧ rc = none) ∨ ∃ v i u, r = some v ∧ rc = some (i, u) ∧ VRep C v u) := by
    intro es ents r hl hrep hr
    obtain ⟨o, ho, hc⟩ := findA_I hr
    obtain ⟨rc, hrc, h1, h2⟩ := findKey_sound htk hk C.w es ents.toList (by simpa using hl) (fun i k v e hi he => (hrep i k v e hi (by rw [← Array.getElem?_toList]; exact he)).1) ho
    refine ⟨rc, hrc, ?_⟩
    rcases hc with ⟨rfl, rfl⟩ | ⟨i, x, v, rfl, hi, rfl⟩
    · exact .inl ⟨rfl, h1 rfl⟩
    · obtain ⟨e, h3, h4⟩ := h2 i rfl
      exact .inr ⟨v, i, e.val, rfl, h4, (hrep i x v e hi (by rw [← Array.getElem?_toList]; exact h3)).2⟩
  have fin : ∀ (B : Nat) (ents : Array MapEntry) (clock : Nat) (rc : Option (Nat × Value)), C.w.heap[B]? = some (.map ents clock) → (Instr.findKey kt vk ents.toList).run P C.w = .ok rc C.w →
      (Instr.lookup t (.map (some B)) vk ok).run P C.w = .ok (if ok then .tuple #[(rc.map (·.2)).getD ze, .bool rc.isSome] else (rc.map (·.2)).getD ze) C.w := by
    intro B ents clock rc hat hrc
    have hget : (getObj B).run P C.w = .ok (.map ents clock) C.w := by simp [getObj, Sem.run, hat]
    cases rc with
    | none => simp [Instr.lookup, run_underlying hdd, hget, hck, hrc, run_zero hie hze]
    | some q => obtain ⟨i, u⟩ := q; simp [Instr.lookup, run_underlying hdd, hget, hck, hrc]
  cases m with
  | mp b g =>
    simp only at h
    replace h := rd_map h; obtain ⟨es, ver, hb, h⟩ := h
    replace h := rd_opt h; obtain ⟨r, hr, h⟩ := h
    obtain ⟨B, ents, clock, rfl, hi, hat, hl, hrep, _, _⟩ := mp_live hm hv hb
    obtain ⟨rc, hrc, hcase⟩ := core es ents r hl hrep hr
    exact lookRes_out hv (ofVal_rep ze) hcase h (fin B ents clock rc hat hrc)
  | im es =>
    simp only at h
    replace h := rd_opt h; obtain ⟨r, hr, h⟩ := h
    cases hm with
    | im0 =>
      simp only [findA, Option.some.injEq] at hr
      subst hr
      refine lookRes_out hv (ofVal_rep ze) (.inl ⟨rfl, rfl⟩) h (rc := none) ?_
      have hfk : (Instr.findKey kt vk []).run P C.w = .ok none C.w := by
        obtain ⟨inf2, dd2, z2, hi2, hdd2, hz2, _⟩ := tiOf_some htk
        simp [Instr.findKey, run_underlying hdd2, Instr.findNow]
      simp [Instr.lookup, run_underlying hdd, hck, hfk, run_zero hie hze]
    | im es B ents clock hat hl hk1 hv1 hborn hclk hs =>
      obtain ⟨rc, hrc, hcase⟩ := core es ents r hl (fun i k v e hi he => ⟨hk1 i k v e hi he, hv1 i k v e hi he⟩) hr
      exact lookRes_out hv (ofVal_rep ze) hcase h (fin B ents clock rc hat hrc)
  | _ => exact (rd_fail h).elim

end Go.AI
