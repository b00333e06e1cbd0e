/- The rule for such a loop. Views: a nil slice in a cell; freezing. Cuts: a state between two pieces. Views: a slice in a cell is frozen. No condition. -/
import Derived.Test.YtlidakhdcnkabaaM07
namespace Go.AI
variable {P : Program} {X : Ext} {N : Nat} {r0 : Option Nat}

theorem Quiet.rel {D : Nat → Prop} {C : Cfg} {w : World} {s : St} {a : Act} (q : Quiet D C.w w) (hD : ∀ B, D B → ¬ ∃ d, C.w.heap[B]? = some (.deferred d)) (hr : RelS C N s a) : RelS (C.at w) N s a := by
  obtain ⟨Ds, d1, d2, d3⟩ := hr.defers
  refine ⟨q.valid hr.valid, hr.h, fun t => q.grow.rep (hr.tmps t), hr.size, ⟨Ds, d1, d2, fun B hB => ?_⟩, hr.K⟩
  obtain ⟨d4, d5⟩ := d3 B hB
  have hlt : B < C.w.heap.size := (Array.getElem?_eq_some_iff.1 d4).1
  rcases q.blk B hlt with h | ⟨h, _⟩
  · exact ⟨h.trans d4, d5⟩
  · exact absurd ⟨_, d4⟩ (hD B h)

theorem rel_put {C : Cfg} {s : St} {a : Act} (hr : RelS C N s a) {d : Nat} (hd : d < N) {v : Value} {x : AVal} (hx : VRep C x v) : RelS C N ⟨(d, x) :: s.tmps, s.heap, s.nx, s.G⟩ (a.put (some d) v) :=
  ⟨hr.valid, hr.h, fun t => by
    have := tmps_put (C := C) (.refl C) hr.tmps (d := some d) (v := v) (x := x) hx (fun t ht => by cases ht; rw [hr.size]; exact hd) t
    simpa only [tget, Option.some.injEq] using this, by rw [size_put]; exact hr.size, by rw [defers_put]; exact hr.defers, hr.K⟩

theorem nodup_lt : ∀ (n : Nat) (l : List Nat), l.Nodup → (∀ j ∈ l, j < n) → l.length ≤ n
  | 0, l, _, h => by
    cases l with
    | nil => simp
    | cons a l => exact absurd (h a List.mem_cons_self) (by omega)
  | n + 1, l, hnd, h => by
    have h1 := nodup_lt n (l.erase n) (hnd.erase n) fun j hj => by
      have hj' := (hnd.mem_erase_iff).1 hj
      have := h j hj'.2
      have := hj'.1
      omega
    have h2 : l.length ≤ (l.erase n).length + 1 := by
      rw [List.length_erase]
      split <;> omega
    omega

theorem Exec.rangeMap (hX : X.Sound P) {i5 i6 i7 b b1 k : Nat} {ops5 ops7 : Array Oper} {o5 o61 o62 o7 : Oper} {s s5 : St} {m : Operand} {it d1 c d7 : Tmp} {t kt et : TypeId} {y : Code} {es : List (AVal × AVal)} {Q : Exit → St → Prop}
    (hN5 : dstsOk N ops5.toList = true) (hk : ops5.size = k + 1) (h5 : runL P X ops5 (ops5.toList.take k) s = some s5) (ho5 : ops5[k]? = some o5) (g5 : o5.guard = none) (p5 : o5.op = .range t m) (e5 : o5.dst = some it) (hm : s5.ev m = .im es) (ht : P.underlying t = some (.map kt et))
    (hd1 : d1 < N) (hc : c < N) (g61 : o61.guard = none) (p61 : o61.op = .next (.tmp it) false) (e61 : o61.dst = some d1) (g62 : o62.guard = none) (p62 : o62.op = .extract (.tmp d1) 0) (e62 : o62.dst = some c) (hne : d1 ≠ it) (hne' : c ≠ it)
    (hN7 : dstsOk N ops7.toList = true) (ho7 : ops7[0]? = some o7) (g7 : o7.guard = none) (p7 : o7.op = .entry (.tmp it)) (e7 : o7.dst = some d7)
    (I : Value → List Nat → St → Prop)
    (h0 : ∀ p, ∃ s1, View N ⟨(it, .raw p) :: s5.tmps, s5.heap, s5.nx, s5.G⟩ s1 ∧ tget s1.tmps it = .raw p ∧ I p [] s1)
    (hround : ∀ p done s i k v, I p done s → es[i]? = some (k, v) → i ∉ done → done.Nodup → (∀ j ∈ done, j < es.length) → ∃ s7, runL P X ops7 (ops7.toList.drop 1) ⟨(d7, .tup [k, v]) :: (c, .bool true) :: (d1, .undef) :: s.tmps, s.heap, s.nx, s.G⟩ = some s7 ∧
      Exec P r0 N y s7 (inBlk b1 (andThen (fun s' => ∃ s1, View N s' s1 ∧ tget s1.tmps it = .raw p ∧ I p (i :: done) s1) (inBlk b Q))))
    (hend : ∀ p done s, I p done s → done.Nodup → (∀ j, j ∈ done ↔ j < es.length) → Q .normal ⟨(c, .bool false) :: (d1, .undef) :: s.tmps, s.heap, s.nx, s.G⟩) :
    Exec P r0 N (.seq (.region i5 ops5 false) (.block b (.loop (.seq (.region i6 #[o61, o62] false) (.seq (.cond (.tmp c) .skip (.exit b)) (.block b1 (.seq (.region i7 ops7 false) y))))))) s Q := by
  constructor
  intro n C a hr
  refine wpIn_seq (wpIn_region ?_)
  have hrange : List.range ops5.size = List.range' 0 k ++ [k] := by
    rw [hk, List.range_succ, List.range_eq_range']
  rw [hrange]
  refine runSeg_wp (N := N) hX [k] k 0 s C a s5 (by omega) hN5 hr (by simpa using h5) fun C1 a1 r1 g1 f1 d1' t1 => ?_
  rw [wpOpsIn_cons]
  -- range
  have hmv := ev_rep r1.tmps m
  rw [hm] at hmv
  obtain ⟨m', sn, l, bb, hrun, hit⟩ := it_range (P := P) hmv ht
  have q1 := quiet_alloc (fun _ => False) C1.w (.mapIter m' sn l bb)
  have r1' := q1.rel (fun B h => h.elim) r1
  have hit5 : it < N := dstsOk_spec hN5 (by simpa using Array.mem_of_getElem? ho5) e5
  obtain ⟨R, hR⟩ : ∃ R, R = C1.w.heap.size := ⟨_, rfl⟩
  rw [← hR] at hrun hit
  refine plain_op ho5 g5 (by rw [p5]; simp) (v := .pointer (some ⟨R, 0, none⟩)) (w' := C1.w.alloc (.mapIter m' sn l bb)) (by simp only [execOp, p5]; simp [hrun]) ?_
  obtain ⟨p, hp⟩ : ∃ p : Value, p = .pointer (some ⟨R, 0, none⟩) := ⟨_, rfl⟩
  have hrp := rel_put r1' hit5 (v := .pointer (some ⟨R, 0, none⟩)) (.raw _)
  rw [← hp, ← e5] at hrp
  have hno1 : ¬ (C1.at (C1.w.alloc (.mapIter m' sn l bb))).owned R := fun ⟨b, x, o, hx, hi⟩ => by
    have := r1.valid.old b x _ o hx hi
    omega
  have hF1 : Fr C (C1.at (C1.w.alloc (.mapIter m' sn l bb))) := q1.fr f1 fun B h => h.elim
  have hA1 : FrA C a (C1.at (C1.w.alloc (.mapIter m' sn l bb))) (a1.put o5.dst p) := ⟨hF1, [], by rw [defers_put]; simpa using d1', by simp⟩
  have hRC : C.w.heap.size ≤ R := by rw [hR]; exact f1.size
  have hold : ∀ {C' C'' : Cfg} {s' : St} {a' : Act}, RelS C' N s' a' → Fr C' C'' → (∃ m s l b, C'.w.heap[R]? = some (.mapIter m s l b)) → ¬ C'.owned R → C''.w.heap[R]? = C'.w.heap[R]? ∧ ¬ C''.owned R := by
    intro C' C'' s' a' hr' hf ⟨m, s, l, b, hb⟩ hno
    have hlt : R < C'.w.heap.size := (Array.getElem?_eq_some_iff.1 hb).1
    exact ⟨hf.same R hlt hno, fun ho => (hf.own R ho).elim hno (by omega)⟩
  -- the head
  obtain ⟨s1, hv1, ht1, hI1⟩ := h0 p
  rw [e5] at hrp hA1
  obtain ⟨C2, hw2, r2, g2, f2⟩ := hv1 _ _ hrp
  have hk2 := hold hrp f2 hit.blk hno1
  show (Code.block b _).wpIn _ _ _ _ _ (C1.at (C1.w.alloc (.mapIter m' sn l bb))).w
  rw [← hw2, ← hp, e5]
  refine wpIn_block (wpIn_mono (Q := fun e a' w' => ∃ s' C', C'.w = w' ∧ RelS C' N s' a' ∧ Grow C C' ∧ FrA C a C' a' ∧ inBlk b Q e s') (wpIn_loop_ind
    (fun mm a' w => ∃ s' C' done, C'.w = w ∧ RelS C' N s' a' ∧ Grow C C' ∧ FrA C a C' a' ∧ ItAt C' R es done ∧ ¬ C'.owned R ∧ done.Nodup ∧ (∀ j ∈ done, j < es.length) ∧ mm = es.length - done.length ∧ tget s'.tmps it = .raw p ∧ I p done s') ?_ es.length _ _
    ⟨s1, C2, [], rfl, r2, (g1.trans q1.grow).trans g2, hA1.trans (.of f2 rfl), hit.keep g2 hk2.1, hk2.2, .nil, by simp, by simp, ht1, hI1⟩) fun e a' w' hh => ?_)
  · rintro mm a' w ⟨s', C', done, rfl, r', g', fA', hit', hno', hnd, hlt, rfl, hti, hI⟩
    have hiv : a'.eval (.tmp it) = .pointer (some ⟨R, 0, none⟩) := by
      have := r'.tmps it
      rw [hti] at this
      show a'.tmps.getD it undef = _
      generalize a'.tmps.getD it undef = v at this
      cases this
      exact hp
    have hlast : ∀ (w : World) (aa : Act) (v : Value) (vs : Array Value), vs[0]? = some v → aa.tmps.getD d1 undef = .tuple vs → (execOp aa.eval o62).run P w = .ok (.value v) w := by
      intro w aa v vs hvs hv
      have he : aa.eval (.tmp d1) = .tuple vs := hv
      simp only [execOp, p62, he]
      simp [Instr.extract, hvs]
    have hgd : ∀ (x : Value), d1 < a'.tmps.size → (a'.put o61.dst x).tmps.getD d1 undef = x := by
      intro x hd
      rw [e61]
      simp [Act.put, hd]
    have hd1' : d1 < a'.tmps.size := by rw [r'.size]; exact hd1
    refine wpIn_seq (wpIn_region ?_)
    show wpOpsIn _ _ _ _ _ [0, 1] _ _
    rw [wpOpsIn_cons]
    rcases it_next (P := P) hit' o61.type hno' with ⟨hfull, hrun⟩ | ⟨i, kk, vv, key, val, w2, hkv, hid, hrun, q2, hit2, hent, hk', hv'⟩
    · refine plain_op (o := o61) rfl g61 (by rw [p61]; simp) (v := .tuple #[.bool false]) (w' := C'.w) (by simp only [execOp, p61, hiv]; simp [hrun]) ?_
      rw [wpOpsIn_cons]
      refine plain_op (o := o62) rfl g62 (by rw [p62]; simp) (v := .bool false) (w' := C'.w) (hlast _ _ _ #[.bool false] rfl (hgd _ hd1')) ?_
      have ra := rel_put (rel_put r' hd1 (v := .tuple #[.bool false]) (.undef _)) hc (v := .bool false) (x := .bool false) (.bool false)
      rw [← e61, ← e62] at ra
      have hcv : ((a'.put o61.dst (.tuple #[.bool false])).put o62.dst (.bool false)).eval (.tmp c) = .bool false := by
        have := ra.tmps c
        rw [e62] at this
        simp only [tget, if_true] at this
        show Array.getD _ c undef = _
        rw [e62]
        generalize Array.getD _ c undef = v at this
        cases this
        rfl
      refine wpIn_seq (wpIn_cond hcv (wpIn_exit ?_))
      refine ⟨_, C', rfl, ra, g', ?_, ?_⟩
      · exact ⟨fA'.fr, by rw [defers_put, defers_put]; exact fA'.new⟩
      · simp only [inBlk, if_true]
        exact hend p done s' hI hnd fun j => ⟨hlt j, hfull j⟩
    · refine plain_op (o := o61) rfl g61 (by rw [p61]; simp) (v := .tuple #[.bool true, key, val]) (w' := w2) (by simp only [execOp, p61, hiv]; simp [hrun]) ?_
      rw [wpOpsIn_cons]
      refine plain_op (o := o62) rfl g62 (by rw [p62]; simp) (v := .bool true) (w' := w2) (hlast _ _ _ #[.bool true, key, val] rfl (hgd _ hd1')) ?_
      have hmi := hit'.blk
      have r2' := q2.rel (fun B hB => by subst hB; rintro ⟨d, hd⟩; obtain ⟨_, _, _, _, h⟩ := hmi; rw [h] at hd; cases hd) r'
      have ra := rel_put (rel_put r2' hd1 (v := .tuple #[.bool true, key, val]) (.undef _)) hc (v := .bool true) (x := .bool true) (.bool true)
      rw [← e61, ← e62] at ra
      have hcv : ((a'.put o61.dst (.tuple #[.bool true, key, val])).put o62.dst (.bool true)).eval (.tmp c) = .bool true := by
        have := ra.tmps c
        rw [e62] at this
        simp only [tget, if_true] at this
        show Array.getD _ c undef = _
        rw [e62]
        generalize Array.getD _ c undef = v at this
        cases this
        rfl
      have hiv2 : ((a'.put o61.dst (.tuple #[.bool true, key, val])).put o62.dst (.bool true)).eval (.tmp it) = .pointer (some ⟨R, 0, none⟩) := by
        show Array.getD _ it undef = _
        rw [getD_put (by rw [e62]; simpa using hne'), getD_put (by rw [e61]; simpa using hne)]
        exact hiv
      have fA2 : FrA C a (C'.at w2) ((a'.put o61.dst (.tuple #[.bool true, key, val])).put o62.dst (.bool true)) :=
        ⟨q2.fr fA'.fr fun B hB => by subst hB; exact hRC, by rw [defers_put, defers_put]; exact fA'.new⟩
      have g2' : Grow C (C'.at w2) := g'.trans q2.grow
      generalize (a'.put o61.dst (.tuple #[.bool true, key, val])).put o62.dst (.bool true) = a2 at ra hcv hiv2 fA2
      have hno2 : ¬ (C'.at w2).owned R := hno'
      refine wpIn_seq (wpIn_cond hcv (wpIn_skip ?_))
      obtain ⟨s7, hrun7, hex⟩ := hround p done s' i kk vv hI hkv hid hnd hlt
      refine wpIn_block (wpIn_seq (wpIn_region ?_))
      have h7lt : 0 < ops7.size := (Array.getElem?_eq_some_iff.1 ho7).1
      have hrange7 : List.range ops7.size = 0 :: (List.range' 1 (ops7.size - 1) ++ []) := by
        rw [List.append_nil, List.range_eq_range']
        have : ops7.size = (ops7.size - 1) + 1 := by omega
        rw [this, List.range'_succ]
        rfl
      rw [hrange7, wpOpsIn_cons]
      have hd7 : d7 < N := dstsOk_spec hN7 (by simpa using Array.mem_of_getElem? ho7) e7
      refine plain_op ho7 g7 (by rw [p7]; simp) (v := .tuple #[key, val]) (w' := w2) (by simp only [execOp, p7, hiv2]; simp [hent]) ?_
      have rb := rel_put ra hd7 (v := .tuple #[key, val]) (x := .tup [kk, vv]) (.tup _ _ rfl fun j x v hx hv => by
        rcases j with _ | _ | j
        · simp only [List.getElem?_cons_zero, Option.some.injEq] at hx
          simp only [Array.getElem?_eq_some_iff] at hv
          obtain ⟨_, rfl⟩ := hv
          subst hx
          exact hk'
        · simp only [List.getElem?_cons_succ, List.getElem?_cons_zero, Option.some.injEq] at hx
          simp only [Array.getElem?_eq_some_iff] at hv
          obtain ⟨_, rfl⟩ := hv
          subst hx
          exact hv'
        · simp at hx)
      rw [e7]
      refine runSeg_wp (N := N) hX [] (ops7.size - 1) 1 _ (C'.at w2) _ s7 (by omega) hN7 rb (by rw [List.take_of_length_le (by simp)]; exact hrun7) fun C3 a3 r3 g3 f3 d3 t3 => ?_
      have hk3 := hold rb f3 hit2.blk hno2
      refine wpIn_mono (hex.go n C3 a3 r3) fun e a4 w4 hh => ?_
      obtain ⟨s4, C4, rfl, r4, g4, f4, h4⟩ := hh
      have hk4 := hold r3 f4.fr (by rw [hk3.1]; exact hit2.blk) hk3.2
      have fA3 : FrA C a C3 a3 := fA2.trans (.of f3 (by rw [d3, defers_put]))
      have fin : (∃ s1, View N s4 s1 ∧ tget s1.tmps it = .raw p ∧ I p (i :: done) s1) → ∃ m', m' < es.length - done.length ∧ ∃ s' C' done', C'.w = C4.w ∧ RelS C' N s' a4 ∧ Grow C C' ∧ FrA C a C' a4 ∧ ItAt C' R es done' ∧ ¬ C'.owned R ∧ done'.Nodup ∧ (∀ j ∈ done', j < es.length) ∧ m' = es.length - done'.length ∧ tget s'.tmps it = .raw p ∧ I p done' s' := by
        rintro ⟨s1, hv5, ht5, hI5⟩
        obtain ⟨C5, hw5, r5, g5', f5⟩ := hv5 C4 a4 r4
        have hk5 := hold r4 f5 (by rw [hk4.1, hk3.1]; exact hit2.blk) hk4.2
        have hi : i < es.length := (List.getElem?_eq_some_iff.1 hkv).1
        have hnd' : (i :: done).Nodup := List.nodup_cons.2 ⟨hid, hnd⟩
        have hlt' : ∀ j ∈ i :: done, j < es.length := fun j hj => (List.mem_cons.1 hj).elim (fun h => h ▸ hi) (hlt j)
        have hcard : (i :: done).length ≤ es.length := nodup_lt _ _ hnd' hlt'
        refine ⟨es.length - (i :: done).length, by simp only [List.length_cons] at hcard ⊢; omega, s1, C5, i :: done, hw5, r5, ((g2'.trans g3).trans g4).trans g5', (fA3.trans f4).trans (.of f5 rfl), ?_, hk5.2, hnd', hlt', rfl, ht5, hI5⟩
        exact ((hit2.keep g3 hk3.1).keep g4 hk4.1).keep g5' hk5.1
      have other : ∀ e', inBlk b Q e' s4 → ∃ s' C', C'.w = C4.w ∧ RelS C' N s' a4 ∧ Grow C C' ∧ FrA C a C' a4 ∧ inBlk b Q e' s' := fun e' h => ⟨s4, C4, rfl, r4, (g2'.trans g3).trans g4, fA3.trans f4, h⟩
      cases e with
      | normal => exact fin h4
      | exit id' =>
        simp only [Exit.inBlock]
        simp only [inBlk] at h4
        split
        · rename_i hid'; rw [if_pos hid'] at h4; exact fin h4
        · rename_i hid'; rw [if_neg hid'] at h4; exact other _ h4
      | goto l => exact other _ h4
      | ret => exact other _ h4
      | panic ch => exact other _ h4
      | outgrown => exact other _ h4
  · obtain ⟨s', C', h1, h2, h3, h4, h5⟩ := hh
    cases e with
    | exit id' =>
      simp only [Exit.inBlock]
      simp only [inBlk] at h5
      split
      · rename_i hid; rw [if_pos hid] at h5; exact ⟨s', C', h1, h2, h3, h4, h5⟩
      · rename_i hid; rw [if_neg hid] at h5; exact ⟨s', C', h1, h2, h3, h4, h5⟩
    | _ => exact ⟨s', C', h1, h2, h3, h4, h5⟩

end Go.AI

namespace Go.AI
variable {P : Program} {X : Ext} {N : Nat} {r0 : Option Nat}

/-- A row that has not been laid yet. -/
theorem View.blk (s : St) (c sz : Nat) (wr : Bool) : View N s ⟨s.tmps, (c, some (.row sz [] s.G wr)) :: s.heap, s.nx, s.G + 1⟩ := by
  intro C a hr
  have hf : ¬ C.K s.G := fun hk => by have := hr.K _ hk; omega
  have hc := chg_virtual (C := C) c sz wr hf
  have hg := chg_grow hc
  have hK : (C.chg c (some (.row sz [] s.G wr)) none C.w s.G (s.G + 1)).K s.G := .inr ⟨Nat.le_refl _, Nat.lt_succ_self _⟩
  refine ⟨C.chg c (some (.row sz [] s.G wr)) none C.w s.G (s.G + 1), rfl, ⟨chg_valid hr.valid hc fun _ y hy => ?_, ?_, fun u => hg.rep (hr.tmps u), hr.size, hr.defers.fr (chg_fr hc), fun g hk => ?_⟩, hg, chg_fr hc⟩
  · cases hy
    exact ⟨hK, by simp, .inl ⟨by simp [Cfg.chg, setAt], rfl⟩⟩
  · funext b
    show setAt C.h c _ b = hget _ b
    simp only [hget, setAt, hr.h]
    by_cases hcb : b = c
    · subst hcb; simp
    · rw [if_neg hcb, if_neg (Ne.symm hcb)]
  · rcases hk with hk | ⟨_, hk⟩
    · have := hr.K g hk
      show g < s.G + 1
      omega
    · exact hk

/-- Other names for what lies in a row's cells. -/
theorem View.recell (s : St) (b g sz : Nat) (wr : Bool) (es es' : List (List AVal)) (h : hget s.heap b = some (.row sz es g wr)) (hl : es'.length = es.length)
    (hc : ∀ (i : Nat) (e' : List AVal), es'[i]? = some e' → ∃ e : List AVal, es[i]? = some e ∧ e'.length = e.length ∧ ∀ (j : Nat) (a' : AVal), e'[j]? = some a' → ∃ a, e[j]? = some a ∧ ∀ C act v, RelS C N s act → VRep C a v → VRep C a' v) :
    View N s ⟨s.tmps, (b, some (.row sz es' g wr)) :: s.heap, s.nx, s.G⟩ := by
  intro C a hr
  have hb : C.h b = some (.row sz es g wr) := by rw [hr.h]; exact h
  have hlv : ∀ o s, (AObj.row sz es' g wr).leaves s o ↔ (AObj.row sz es g wr).leaves s o := by simp [AObj.leaves, hl]
  have back : ∀ c x, setAt C.h b (some (.row sz es' g wr)) c = some x → ∃ y, C.h c = some y ∧ sameKind y x ∧ ∀ s o, x.leaves s o ↔ y.leaves s o := fun c x hx => by
    simp only [setAt] at hx
    split at hx
    · rename_i hcb; subst hcb; cases hx; exact ⟨_, hb, ⟨rfl, rfl, by omega⟩, fun s o => hlv o s⟩
    · exact ⟨x, hx, sameKind_refl x, fun _ _ => Iff.rfl⟩
  have hsafe : ∀ B o, C.safe B o → Cfg.safe { C with h := setAt C.h b (some (.row sz es' g wr)) } B o := fun B o hs => ⟨hs.1, fun c x o' hx hi => by
    obtain ⟨y, hy, _, h3⟩ := back c x hx
    exact (h3 o' o).2 (hs.2 c y o' hy hi)⟩
  have hg : Grow C { C with h := setAt C.h b (some (.row sz es' g wr)) } := by
    refine ⟨fun _ h => h, fun c x hx _ => ?_, fun B o u hcl hs => ⟨hcl, hsafe B o hs⟩, fun B ents clock hB hs => ⟨hB, fun o => hsafe B o (hs o)⟩, fun _ _ h => h⟩
    obtain ⟨y, hy, h2, _⟩ := back c x hx
    exact ⟨y, hy, rfl, h2⟩
  have hown : ∀ B, Cfg.owned { C with h := setAt C.h b (some (.row sz es' g wr)) } B → C.owned B := fun B ⟨c, x, o, hx, hi⟩ => let ⟨y, hy, _⟩ := back c x hx; ⟨c, y, o, hy, hi⟩
  have hfr : Fr C { C with h := setAt C.h b (some (.row sz es' g wr)) } := ⟨Nat.le_refl _, fun _ _ _ => rfl, fun B h => .inl (hown B h), rfl, rfl, rfl, rfl⟩
  refine ⟨{ C with h := setAt C.h b (some (.row sz es' g wr)) }, rfl, ⟨⟨fun c x hx => ?_, fun c c' x x' B o o' hx hx' hi hi' => ?_, fun c x B o hx hi => ?_, fun B o hf => ⟨(hr.valid.forb B o hf).1, fun ho => (hr.valid.forb B o hf).2 (hown B ho)⟩⟩, ?_, fun t => hg.rep (hr.tmps t), hr.size, hr.defers.fr hfr, hr.K⟩, hg, hfr⟩
  · by_cases hcb : c = b
    · subst hcb
      simp only [setAt, if_true, Option.some.injEq] at hx
      subst hx
      obtain ⟨h1, h2, h3⟩ := hr.valid.obj c _ hb
      refine ⟨h1, fun e he => ?_, ?_⟩
      · obtain ⟨i, hi⟩ := List.getElem?_of_mem he
        obtain ⟨e0, he0, hle, _⟩ := hc i e hi
        rw [hle]
        exact h2 e0 (List.mem_of_getElem? he0)
      · refine h3.imp (fun ⟨h4, h5⟩ => ⟨h4, by subst h5; simpa using hl⟩) fun ⟨B, s', c', T, hi, hb', hle, hcl⟩ => ⟨B, s', c', T, hi, hb', by rw [hl]; exact hle, fun i j e x hi' hj => ?_⟩
        obtain ⟨e0, he0, _, hx0⟩ := hc i e hi'
        obtain ⟨x0, hx1, hx2⟩ := hx0 j x hj
        obtain ⟨v, hv1, hv2⟩ := hcl i j e0 x0 he0 hx1
        exact ⟨v, hv1, hg.rep (hx2 C a v hr hv2)⟩
    · have hx' : C.h c = some x := by simpa [setAt, hcb] using hx
      have := hr.valid.obj c x hx'
      cases x with
      | row sz es g wr =>
        obtain ⟨h1, h2, h3⟩ := this
        exact ⟨h1, h2, h3.imp id fun ⟨B, s, c, T, hi, hb, hle, hc⟩ => ⟨B, s, c, T, hi, hb, hle, fun i j e a hi' hj => let ⟨v, h4, h5⟩ := hc i j e a hi' hj; ⟨v, h4, hg.rep h5⟩⟩⟩
      | map es g v =>
        obtain ⟨h1, B, ents, clock, hi, hb, hl, hkv, hrest⟩ := this
        exact ⟨h1, B, ents, clock, hi, hb, hl, fun i k v e hi' he => let ⟨h4, h5⟩ := hkv i k v e hi' he; ⟨hg.rep h4, hg.rep h5⟩, hrest⟩
  · obtain ⟨y, hy, _⟩ := back c x hx
    obtain ⟨y', hy', _⟩ := back c' x' hx'
    exact hr.valid.inj c c' y y' B o o' hy hy' hi hi'
  · obtain ⟨y, hy, _⟩ := back c x hx
    exact hr.valid.old c y B o hy hi
  · funext c
    show setAt C.h b _ c = hget _ c
    simp only [hget, setAt, hr.h]
    by_cases hcb : c = b
    · subst hcb; simp
    · rw [if_neg hcb, if_neg (Ne.symm hcb)]

theorem nil_sl {C : Cfg} {c g sz : Nat} {wr : Bool} {v : Value} (hh : C.h c = some (.row sz [] g wr)) (hK : C.K g) (h1 : VRep C (.il [] true) v) : VRep C (.sl c g 0 0) v := by
  generalize hes : ([] : List (List AVal)) = es at h1
  cases h1 with
  | il es ex p cap B o sz' vs hcap hex hmax hp hsz hv hc' =>
    subst hes
    have hcap0 : cap = 0 := hex rfl
    subst hcap0
    refine .sl c g 0 0 p 0 0 hK fun sz1 es1 wr1 hb1 => ?_
    rw [hh] at hb1
    cases hb1
    exact ⟨rfl, Nat.le_refl _, .inl ⟨rfl, rfl⟩⟩

/-- A nil slice in a cell of a single element becomes an empty slice of a row that has not been laid yet. -/
theorem View.virtCell (s : St) (b g sz c sz' j : Nat) (wr wr' : Bool) (e : List AVal) (h : hget s.heap b = some (.row sz [e] g wr)) (hj : e[j]? = some (.il [] true)) (hne : c ≠ b) :
    View N s ⟨s.tmps, (b, some (.row sz [e.set j (.sl c s.G 0 0)] g wr)) :: (c, some (.row sz' [] s.G wr')) :: s.heap, s.nx, s.G + 1⟩ := by
  refine (View.blk s c sz' wr').trans (View.recell _ b g sz wr [e] [e.set j (.sl c s.G 0 0)] ?_ rfl fun i e' he => ?_)
  · simp only [hget, if_neg hne]; exact h
  · cases i with
    | zero =>
      simp only [List.getElem?_cons_zero, Option.some.injEq] at he
      subst he
      refine ⟨e, rfl, by simp, fun j' a' ha => ?_⟩
      by_cases hjj : j = j'
      · subst hjj
        have hlt : j < e.length := (List.getElem?_eq_some_iff.1 hj).1
        rw [List.getElem?_set_self hlt] at ha
        cases ha
        refine ⟨_, hj, fun C act v hr hv => nil_sl (sz := sz') (wr := wr') (by rw [hr.h]; simp [hget]) ?_ hv⟩
        have := hr.valid.obj c (.row sz' [] s.G wr') (by rw [hr.h]; simp [hget])
        exact this.1
      · rw [List.getElem?_set_ne hjj] at ha
        exact ⟨a', ha, fun _ _ _ _ h => h⟩
    | succ i => simp at he

/-- A value in a place is frozen. -/
theorem View.fzT (s : St) (t : Nat) {v' : AVal} {u : List Upd} (h : (fz 4 (tget s.tmps t) fun v u => Rd.ret (v, u)).run (hget s.heap) = some (v', u)) : View N s ⟨(t, v') :: s.tmps, u.reverse ++ s.heap, s.nx, s.G⟩ := by
  intro C a hr
  rw [← hr.h] at h
  obtain ⟨v1, u1, hu, hto, hrun⟩ := fz_sound hr.valid 4 _ _ _ (v', u) (hr.tmps t) h
  simp only [Rd.run, Option.some.injEq, Prod.mk.injEq] at hrun
  obtain ⟨rfl, rfl⟩ := hrun
  obtain ⟨C1, hf, hh⟩ := frz_apply u1 C hr.valid hu
  have hmem : ∀ e ∈ u1, C1.h e.1 = e.2 := fun e he => by
    rw [hh]
    exact hupd_mem u1 C.h (fun e he e' he' hb => (hu e he).det (hu e' he') hb) e he
  refine ⟨C1, hf.w, ⟨hf.valid, ?_, fun t' => ?_, hr.size, hr.defers.fr hf.fr, fun g hg => hr.K g (hf.K g hg)⟩, hf.grow, hf.fr⟩
  · rw [hh, hr.h]
    have := hget_app s (some t) ⟨v1, u1, s.nx, s.G⟩
    simpa [St.app] using this.symm
  · simp only [tget]
    split
    · rename_i htt; subst htt; exact hto C1 hf hmem
    · exact hf.grow.rep (hr.tmps t')

end Go.AI

namespace Go.AI
variable {P : Program} {X : Ext} {N : Nat} {r0 : Option Nat}

theorem View.to {s s1 : St} (ts bs : List Nat) (nx G : Nat) (hG : s.G ≤ G) (h : (⟨keepT ts s.tmps, keepH bs s.heap, nx, G⟩ : St) = s1) : View N s s1 := h ▸ View.norm s ts bs nx G hG

/-- Goes on from a state that was named. -/
theorem Exec.norm {c : Code} {s s1 : St} {Q : Exit → St → Prop} (ts bs : List Nat) (nx G : Nat) (hG : s.G ≤ G) (h : (⟨keepT ts s.tmps, keepH bs s.heap, nx, G⟩ : St) = s1) (hc : Exec P r0 N c s1 Q) : Exec P r0 N c s Q := .view (.to ts bs nx G hG h) hc

/-- Two pieces, and the state between them. -/
theorem Exec.cut {x y : Code} {s : St} {Q : Exit → St → Prop} (s0 : St) (h1 : Exec P r0 N x s (andThen (fun s' => View N s' s0) Q)) (h2 : Exec P r0 N y s0 Q) : Exec P r0 N (.seq x y) s Q := by
  refine .seq (h1.mono fun e s' h => ?_)
  cases e with
  | normal => exact .view h h2
  | _ => exact h

/-- The same where what the state is depends on the way. -/
theorem Exec.cutI {x y : Code} {s : St} {Q : Exit → St → Prop} (I : St → Prop) (h1 : Exec P r0 N x s (andThen (fun s' => ∃ s0, View N s' s0 ∧ I s0) Q)) (h2 : ∀ s0, I s0 → Exec P r0 N y s0 Q) : Exec P r0 N (.seq x y) s Q := by
  refine .seq (h1.mono fun e s' h => ?_)
  cases e with
  | normal => obtain ⟨s0, hv, hi⟩ := h; exact .view hv (h2 s0 hi)
  | _ => exact h

end Go.AI

namespace Go.AI
variable {N : Nat}

/-- A row that nobody writes any more. -/
theorem View.fzB (s : St) (c sz g : Nat) (wr : Bool) (es : List (List AVal)) (h : hget s.heap c = some (.row sz es g wr)) : View N s ⟨s.tmps, (c, some (.row sz es g false)) :: s.heap, s.nx, s.G⟩ := by
  intro C a hr
  have hb : C.h c = some (.row sz es g wr) := by rw [hr.h]; exact h
  obtain ⟨C1, hf, hh⟩ := frz_apply [(c, some (.row sz es g false))] C hr.valid (fun e he => by
    simp only [List.mem_singleton] at he
    subst he
    exact .inl ⟨sz, es, g, wr, rfl, hb⟩)
  refine ⟨C1, hf.w, ⟨hf.valid, ?_, fun t => hf.grow.rep (hr.tmps t), hr.size, hr.defers.fr hf.fr, fun g hg => hr.K g (hf.K g hg)⟩, hf.grow, hf.fr⟩
  rw [hh, hr.h]
  funext b
  simp only [hupd, setAt, hget]
  by_cases hcb : b = c
  · subst hcb; simp
  · rw [if_neg hcb, if_neg (Ne.symm hcb)]

theorem View.fzCell (s : St) (b g sz c gc szc j lo n : Nat) (wr wrc : Bool) (e : List AVal) (es : List (List AVal)) (h : hget s.heap b = some (.row sz [e] g wr)) (hj : e[j]? = some (.sl c gc lo n)) (hcc : hget s.heap c = some (.row szc es gc wrc)) (hne : c ≠ b) :
    View N s ⟨s.tmps, (b, some (.row sz [e.set j (.il ((es.drop lo).take n) false)] g wr)) :: (c, some (.row szc es gc false)) :: s.heap, s.nx, s.G⟩ := by
  refine (View.fzB s c szc gc wrc es hcc).trans (View.recell _ b g sz wr [e] [e.set j (.il ((es.drop lo).take n) false)] ?_ rfl fun i e' he => ?_)
  · simp only [hget, if_neg hne]; exact h
  · cases i with
    | zero =>
      simp only [List.getElem?_cons_zero, Option.some.injEq] at he
      subst he
      refine ⟨e, rfl, by simp, fun j' a' ha => ?_⟩
      by_cases hjj : j = j'
      · subst hjj
        have hlt : j < e.length := (List.getElem?_eq_some_iff.1 hj).1
        rw [List.getElem?_set_self hlt] at ha
        cases ha
        refine ⟨_, hj, fun C act v hr hv => ?_⟩
        have hb1 : C.h c = some (.row szc es gc false) := by rw [hr.h]; simp [hget]
        obtain ⟨p, cap, hcv, hle, hK, hcase⟩ := sl_live hv hb1
        subst hcv
        have hcap : n ≤ cap := by rcases hcase with ⟨a, b⟩ | ⟨B, s, T, N, _, _, _, h, _⟩ <;> omega
        exact frozen_il hr.valid hb1 hv false cap hcap (Nat.le_refl _) (by simp)
      · rw [List.getElem?_set_ne hjj] at ha
        exact ⟨a', ha, fun _ _ _ _ h => h⟩
    | succ i => simp at he

end Go.AI
