/- Steps as walks take them. Loops up to a view; bounds of lengths. A loop over a function. Walking an iterator: code that hands values to whoever ranges over it. No condition. -/
import Derived.Test.YtlidakhdcnkabaaM05
import Derived.RangeFuncSeq
namespace Go.AI
variable {P : Program} {X : Ext} {N : Nat} {r0 : Option Nat}

attribute [simp] runL stepA wantedA opR valR Rd.run St.ev ofVal ofVal1 St.app tget argT isNilSlice binA arithA unA nilA ofOpt hget row? map? newRow loadR storeR nilCheckR partA setCs AVal.cells AVal.sc AVal.flat lenR builtinR asI optA fieldAddrR fieldR indexAddrR indexR sliceR lookupR mapUpdateR deleteR clearR callR callR.bindUpd buildR buildSliceR makeSliceR convertR appendR fillA fillEs fzL fzLL fz

theorem okEs_nil (n : Nat) : okEs n [] = true := rfl
theorem okEs_cons (n : Nat) (c : List AVal) (cs : List (List AVal)) : okEs n (c :: cs) = (c.length == n && c.all AVal.sc && okEs n cs) := rfl
theorem okEs_map {α : Type} (n : Nat) (f : α → List AVal) (l : List α) : okEs n (l.map f) = l.all fun x => (f x).length == n && (f x).all AVal.sc := by simp [okEs, List.all_map]; rfl
theorem okEs_append (n : Nat) (l l' : List (List AVal)) : okEs n (l ++ l') = (okEs n l && okEs n l') := by simp [okEs, List.all_append]
theorem flatEs_nil : flatEs [] = true := rfl
theorem flatEs_cons (c : List AVal) (cs : List (List AVal)) : flatEs (c :: cs) = (c.all AVal.flat && flatEs cs) := rfl
theorem flatEs_map {α : Type} (f : α → List AVal) (l : List α) : flatEs (l.map f) = l.all fun x => (f x).all AVal.flat := by simp [flatEs, List.all_map]; rfl
theorem flatEs_append (l l' : List (List AVal)) : flatEs (l ++ l') = (flatEs l && flatEs l') := by simp [flatEs, List.all_append]
attribute [simp] okEs_nil okEs_cons okEs_map okEs_append flatEs_nil flatEs_cons flatEs_map flatEs_append

theorem Exec.step (hX : X.Sound P) {ops : Array Oper} {id : Nat} {s s' : St} {y : Code} {Q : Exit → St → Prop} (hN : dstsOk N ops.toList = true) (h : runL P X ops ops.toList s = some s') (hy : Exec P r0 N y s' Q) : Exec P r0 N (.seq (.region id ops false) y) s Q :=
  .seq (.region hX hN h hy)

/-- The run in text order, its deeds kept. -/
def runD (P : Program) (X : Ext) (ops : Array Oper) : List Oper → St → Option (List Rec × St)
  | [], s => some ([], s)
  | o :: l, s => match stepA P X ops s o with
    | none => none
    | some r => if s.G ≤ r.d.G then match runD P X ops l (s.app o.dst r.d) with
        | none => none
        | some (rs, s') => some (r :: rs, s')
      else none

theorem runD_tr {ops : Array Oper} : ∀ {l : List Oper} {s s' : St} {rs : List Rec}, runD P X ops l s = some (rs, s') → Tr P X ops l s rs s'
  | [], s, s', rs, h => by
    simp only [runD, Option.some.injEq, Prod.mk.injEq] at h
    obtain ⟨rfl, rfl⟩ := h
    exact .nil s
  | o :: l, s, s', rs, h => by
    simp only [runD] at h
    split at h
    · cases h
    · rename_i r hr
      split at h
      · rename_i hG
        split at h
        · cases h
        · rename_i rs' s2 h2
          simp only [Option.some.injEq, Prod.mk.injEq] at h
          obtain ⟨rfl, rfl⟩ := h
          exact .cons hr hG (runD_tr h2)
      · cases h

theorem Exec.draw (hm : P.follows .mixedOrders = true) (hX : X.Sound P) {ops : Array Oper} {id : Nat} {s s' : St} {recs : List Rec} {y : Code} {Q : Exit → St → Prop} (hok : drawOk ops = true) (hN : dstsOk N ops.toList = true) {L : List (Nat × Nat)} (hL : loose ops = L)
    (tr : runD P X ops ops.toList s = some (recs, s')) (hl : looseOk recs L) (hy : Exec P r0 N y s' Q) : Exec P r0 N (.seq (.region id ops true) y) s Q :=
  .seq (.drawn hm hX hok hN (runD_tr tr) (hL ▸ hl) hy)

theorem looseOk_nil {rs : List Rec} : looseOk rs [] := fun _ h => (by cases h)
theorem looseOk_cons {rs : List Rec} {p : Nat × Nat} {l : List (Nat × Nat)} {r r' : Rec} (h1 : rs[p.1]? = some r) (h2 : rs[p.2]? = some r') (hd : Disj r r') (h : looseOk rs l) : looseOk rs (p :: l) := by
  intro q hq x y hx hy
  rcases List.mem_cons.1 hq with rfl | hq
  · rw [h1] at hx; rw [h2] at hy
    cases hx; cases hy
    exact hd
  · exact h q hq x y hx hy

def disjB (r r' : Rec) : Bool := (r.d.upd.all fun e => !r'.rs.contains e.1) && (r'.d.upd.all fun e => !r.rs.contains e.1) && r.d.upd.all fun e => r'.d.upd.all fun e' => e'.1 != e.1

theorem disjB_spec {r r' : Rec} (h : disjB r r' = true) : Disj r r' := by
  simp only [disjB, Bool.and_eq_true, List.all_eq_true, Bool.not_eq_true', bne_iff_ne] at h
  exact ⟨fun e he => by simpa using h.1.1 e he, fun e he => by simpa using h.1.2 e he, fun e he e' he' => h.2 e he e' he'⟩

def looseB (rs : List Rec) (l : List (Nat × Nat)) : Bool := l.all fun p => match rs[p.1]?, rs[p.2]? with
  | some r, some r' => disjB r r'
  | _, _ => true

theorem looseB_spec {rs : List Rec} {l : List (Nat × Nat)} (h : looseB rs l = true) : looseOk rs l := by
  intro p hp r r' h1 h2
  simp only [looseB, List.all_eq_true] at h
  have := h p hp
  rw [h1, h2] at this
  exact disjB_spec this

end Go.AI

namespace Go.AI
variable {P : Program} {N : Nat} {r0 : Option Nat}

/-- A loop, its head's state seen through a view. -/
theorem Exec.loopV {c : Code} {Q : Exit → St → Prop} (I : Nat → St → Prop) (round : ∀ m s, I m s → Exec P r0 N c s (andThen (fun s' => ∃ s1 m', View N s' s1 ∧ m' < m ∧ I m' s1) Q)) {s s1 : St} {m : Nat} (hv : View N s s1) (h : I m s1) : Exec P r0 N (.loop c) s Q := by
  refine .view hv (.loop (fun m s => ∃ s1, View N s s1 ∧ I m s1) (fun m s ⟨s1, h1, h2⟩ => .view h1 ((round m s1 h2).mono fun e s' hh => ?_)) ⟨s1, .refl s1, h⟩)
  cases e with
  | normal =>
    obtain ⟨s2, m', h3, h4, h5⟩ := hh
    exact ⟨m', h4, s2, h3, h5⟩
  | _ => exact hh

theorem Exec.len {c : Code} {s : St} {Q : Exit → St → Prop} (t : Nat) {es : List (List AVal)} {ex : Bool} (ht : tget s.tmps t = .il es ex) (h : es.length ≤ maxLen → Exec P r0 N c s Q) : Exec P r0 N c s Q := by
  constructor
  intro n C a hr
  have h1 := hr.tmps t
  rw [ht] at h1
  generalize a.tmps.getD t undef = v at h1
  cases h1 with
  | il es ex p cap B o sz vs hcap hex hmax hp hsz hv hc => exact (h (Nat.le_trans hcap hmax)).go n C a hr

theorem Exec.len_sl {c : Code} {s : St} {Q : Exit → St → Prop} (t : Nat) {b g lo n sz : Nat} {es : List (List AVal)} {wr : Bool} (ht : tget s.tmps t = .sl b g lo n) (hb : hget s.heap b = some (.row sz es g wr)) (h : n ≤ maxLen ∧ lo + n ≤ es.length → Exec P r0 N c s Q) : Exec P r0 N c s Q := by
  constructor
  intro k C a hr
  have h1 := hr.tmps t
  rw [ht] at h1
  obtain ⟨p, cap, _, hle, _, hcase⟩ := sl_live h1 (by rw [hr.h]; exact hb)
  refine (h ⟨?_, hle⟩).go k C a hr
  rcases hcase with ⟨h2, _⟩ | ⟨B, o, T, M, _, _, _, h2, _, h3⟩ <;> omega

theorem wrap64 {n : Int} (h1 : -9223372036854775808 ≤ n) (h2 : n < 9223372036854775808) : IntKind.i64.wrap n = n := IntWalk.i64_in n ⟨h1, by omega⟩

/-- An end whose results name no block. -/
theorem ends_free {fn : Func} {s : St} {nx G : Nat} {l : List ResultVar} {rs : List AVal} (hres : fn.results.toList = l) (h1 : resL P s l = some rs) (h2 : ∀ k : List AVal → List Upd → Rd (List AVal × List Upd), fzL expF rs k = k rs []) (h3 : ∀ v ∈ rs, Free v) : Ends0 P fn s nx G ⟨oneA rs, [], nx, G⟩ := by
  have hexp : ∀ (vs : List AVal), (∀ v ∈ vs, Free v) → Exp (fun _ _ => False) (hupd (hget s.heap) []) vs nx G vs [] [] := by
    intro vs
    induction vs with
    | nil => exact fun _ => .nil nx G
    | cons v vs ih => exact fun h => .keep (h v List.mem_cons_self) (ih fun w hw => h w (List.mem_cons_of_mem _ hw))
  exact ⟨rs, rs, [], rs, [], [], by rw [hres]; exact h1, by rw [h2]; rfl, hexp rs h3, .nil, rfl⟩

attribute [simp] expF resL resA runD Rd.reads keepT keepH andThen inBlk oneA St.put

end Go.AI

namespace Go.AI
variable {P : Program} {N : Nat}

/-- What an iterator promises whoever ranges over it: it hands xs, one after the other, and looks at no more than the blocks 'look'. -/
def Iter (P : Program) (gf : FuncId) (caps : List AVal) (look : List Nat) (hp : Nat → Option AObj) (xs : List AVal) : Prop :=
  ∀ (l n : Nat) (C : Cfg) (capv : Array Value) (J : Nat → World → Prop), Valid C → C.h = hp → VReps C caps capv.toList →
    (∀ i w w', J i w → Quiet (fun _ => False) w w' → J i w') →
    (∀ i w, J i w → ∃ C', C'.w = w ∧ Valid C' ∧ Grow C C' ∧ ∀ b ∈ look, C'.h b = C.h b) →
    (∀ (i : Nat) w x v, xs[i]? = some x → (∀ C, VRep C x v) → J i w → YieldAt (W none) n P l #[v] w fun e w' => e = .returned (.bool true) ∧ J (i + 1) w') →
    J 0 C.w → Calls P gf (#[.func (.yield l) #[] #[]] ++ capv) C.w fun e w' => (∃ v, e = .returned v) ∧ J xs.length w'

theorem quiet_alloc (D : Nat → Prop) (w : World) (o : Obj) : Quiet D w (w.alloc o) :=
  ⟨by simp, fun B hB => .inl (alloc_old w o B hB), rfl, rfl, rfl⟩

theorem quiet_put {w : World} {l : Nat} {o o' : Obj} (h : w.heap[l]? = some o) (ho : mute o = true) (ho' : mute o' = true) : Quiet (· = l) w (w.putObj l o') := by
  have hlt : l < w.heap.size := (Array.getElem?_eq_some_iff.1 h).1
  refine ⟨by simp, fun B _ => ?_, rfl, rfl, rfl⟩
  by_cases hB : B = l
  · subst hB
    exact .inr ⟨rfl, o, o', h, World.putObj_heap_same hlt, ho, ho'⟩
  · exact .inl (World.putObj_heap_other hB)

theorem Exec.rangeFunc {g : Operand} {p : Tmp} {assign body : Code} {s : St} {Q : Exit → St → Prop} {gf : FuncId} {caps xs : List AVal} {look : List Nat} (hen : Enters P gf) (hp : p < N) (hg : s.ev g = .fn (.func gf) [] caps)
    (hit : Iter P gf caps look (hget s.heap) xs) (I : Nat → AHeap → Nat → Nat → Prop) (h0 : I 0 s.heap s.nx s.G) (hlook : ∀ i h nx G, I i h nx G → ∀ b ∈ look, hget h b = hget s.heap b)
    (hround : ∀ l (i : Nat) x h nx G, I i h nx G → xs[i]? = some x → Exec P (some l) N assign ⟨(p, x) :: s.tmps, h, nx, G⟩ fun e s1 => e = .normal ∧ Exec P (some l) N body s1 fun e s2 => e = .normal ∧ ∃ s3, View N s2 s3 ∧ I (i + 1) s3.heap s3.nx s3.G)
    (hQ : ∀ h nx G, I xs.length h nx G → Q .normal ⟨s.tmps, h, nx, G⟩) : Exec P none N (.rangeFunc g #[p] assign body) s Q := by
  constructor
  intro n C a hr
  refine wpIn_rangeFunc fun fn _ => ?_
  obtain ⟨gfn, gbody, hf1, hf2, hf3⟩ := hen
  have hnm : gfn.name ≠ "runtime.NumGoroutine" := by simpa using hf2
  -- the function's value
  have hrg := ev_rep hr.tmps g
  rw [hg] at hrg
  obtain ⟨capv, hgv, hcap⟩ : ∃ capv, a.eval g = .func (.func gf) #[] capv ∧ VReps C caps capv.toList := by
    generalize a.eval g = v at hrg
    cases hrg with
    | fn _ _ _ us vs h1 h2 _ hc =>
      have : us = #[] := Array.eq_empty_of_size_eq_zero (by simpa using h1.symm)
      subst this
      exact ⟨vs, rfl, by simpa using h2, fun i x v hx hv => hc i x v hx (by rw [← Array.getElem?_toList]; exact hv)⟩
  -- the record
  obtain ⟨rec, hrec⟩ : ∃ rec : LoopState → Loop, rec = fun st => { state := st, pending := none, fn, tmps := a.tmps, params := #[p], assign, body, defers := C.w.heap.size } := ⟨_, rfl⟩
  obtain ⟨w1, hw1⟩ : ∃ w1, (C.w.alloc (.deferred (some []))).alloc (.loop (rec .ready)) = w1 := ⟨_, rfl⟩
  have hL1 : w1.heap[C.w.heap.size + 1]? = some (.loop (rec .ready)) := by
    rw [← hw1]; have := World.alloc_heap_new (C.w.alloc (.deferred (some []))) (.loop (rec .ready)); rwa [World.size_alloc] at this
  have hD1 : w1.heap[C.w.heap.size]? = some (.deferred (some [])) := by
    rw [← hw1]; exact (alloc_old _ _ _ (by simp)).trans (World.alloc_heap_new C.w _)
  have q1 : Quiet (fun _ => False) C.w w1 := by rw [← hw1]; exact (quiet_alloc _ C.w _).trans (quiet_alloc _ _ _)
  have hsz1 : w1.heap.size = C.w.heap.size + 2 := by rw [← hw1]; simp
  have hv1 : Valid (C.at w1) := q1.valid hr.valid
  have hown1 : ∀ B, C.w.heap.size ≤ B → ¬ (C.at w1).owned B := fun B hB ⟨b, x, o, hx, hi⟩ => by
    have := hr.valid.old b x B o hx hi
    omega
  refine ⟨C.w.heap.size + 1, [mark C.w.heap.size], w1, { target := .fn (.func gf) capv, args := #[.func (.yield (C.w.heap.size + 1)) #[] #[]] }, w1, gf, #[.func (.yield (C.w.heap.size + 1)) #[] #[]] ++ capv, w1, ?_, ?_, fun _ _ => trivial, ?_, fun h => by simp [W, Fence.wide] at h, ?_⟩
  · rw [← hw1, hrec]; exact run_enterLoop_outer _ _ _ _ _
  · simp only [resolve, hgv]
    simp [Deferred.ofValue, Act.eval]
  · simp [invoke, callFunc, hf1, hnm, hf3]
  refine callsIn_W ?_
  have inFr : ∀ {C' : Cfg}, Fr (C.at w1) C' → ∀ B, C.w.heap.size ≤ B → B < C.w.heap.size + 2 → C'.w.heap[B]? = w1.heap[B]? ∧ ¬ C'.owned B := fun {C'} hf B hB hB2 => by
    have hlt : B < (C.at w1).w.heap.size := by show B < w1.heap.size; omega
    exact ⟨hf.same B hlt (hown1 B hB), fun ho => (hf.own B ho).elim (hown1 B hB) (by omega)⟩
  refine (hit (C.w.heap.size + 1) (n - 1 - 1) (C.at w1) capv (fun i w => ∃ C' h nx G, C'.w = w ∧ Valid C' ∧ C'.h = hget h ∧ (∀ g, C'.K g → g < G) ∧ Grow (C.at w1) C' ∧ Fr (C.at w1) C' ∧ I i h nx G)
    hv1 hr.h ⟨hcap.1, fun i x v hx hv => q1.grow.rep (hcap.2 i x v hx hv)⟩ ?_ ?_ ?_ ⟨C.at w1, s.heap, s.nx, s.G, rfl, hv1, hr.h, hr.K, .refl _, .refl _, h0⟩).mono ?_
  · -- the invariant does not mind new blocks
    rintro i w w' ⟨C', h, nx, G, rfl, j1, j2, j3, j4, j5, j6⟩ q
    exact ⟨C'.at w', h, nx, G, rfl, q.valid j1, j2, j3, j4.trans q.grow, q.fr j5 fun _ h => h.elim, j6⟩
  · rintro i w ⟨C', h, nx, G, rfl, j1, j2, j3, j4, j5, j6⟩
    exact ⟨C', rfl, j1, j4, fun b hb => by rw [j2, hlook i h nx G j6 b hb]; exact (congrFun hr.h b).symm⟩
  · -- one round
    rintro i w x v hx hv ⟨C', h, nx, G, rfl, j1, j2, j3, j4, j5, j6⟩
    have hl := (inFr j5 (C.w.heap.size + 1) (by omega) (by omega)).1.trans hL1
    have hy := run_yield (P := P) (args := #[v]) hl (by rw [hrec]; rfl)
    rw [hrec] at hy
    refine ⟨fn, _, assign, body, hy, roundIn_of_wpIn trivial ?_⟩
    have hrel : RelS C' N ⟨(p, x) :: s.tmps, h, nx, G⟩ { tmps := (#[p].zip #[v]).foldl (fun tmps (t, a) => tmps.setIfInBounds t a) a.tmps, defers := [] } := by
      have hz : (#[p].zip #[v]).foldl (fun tmps (t, a) => tmps.setIfInBounds t a) a.tmps = a.tmps.setIfInBounds p v := by simp
      rw [hz]
      refine ⟨j1, j2, fun t => ?_, by simpa using hr.size, .nil _, j3⟩
      have base : ∀ t, VRep (C.at w1) (tget s.tmps t) (a.tmps.getD t undef) := fun t => q1.grow.rep (hr.tmps t)
      have := tmps_put j4 base (d := some p) (v := v) (x := x) (hv C') (fun t ht => by cases ht; rw [hr.size]; exact hp) t
      simp only [Option.some.injEq] at this
      simp only [tget]
      exact this
    refine wpIn_mono ((hround (C.w.heap.size + 1) i x h nx G j6 hx).go (n - 1 - 1) C' _ hrel) fun e a2 w2 hh => ?_
    obtain ⟨s2, C2, rfl, k2, k3, k4, rfl, k6⟩ := hh
    have hl2 := (inFr (j5.trans k4.fr) (C.w.heap.size + 1) (by omega) (by omega)).1.trans hL1
    refine ⟨_, run_beginRound hl2 (by rw [hrec]), ?_⟩
    have q2 := quiet_put (o' := .loop { rec .ready with state := .busy }) hl2 rfl rfl
    have hlt2 : C.w.heap.size + 1 < C2.w.heap.size := (Array.getElem?_eq_some_iff.1 hl2).1
    have hno2 : ¬ C2.owned (C.w.heap.size + 1) := (inFr (j5.trans k4.fr) (C.w.heap.size + 1) (by omega) (by omega)).2
    have hrel2 : RelS (C2.at (C2.w.putObj (C.w.heap.size + 1) (.loop { rec .ready with state := .busy }))) N s2 a2 := by
      obtain ⟨Ds, d1, d2, d3⟩ := k2.defers
      refine ⟨q2.valid k2.valid, k2.h, fun t => q2.grow.rep (k2.tmps t), k2.size, ⟨Ds, d1, d2, fun D hD => ?_⟩, k2.K⟩
      obtain ⟨d4, d5⟩ := d3 D hD
      have hne : D ≠ C.w.heap.size + 1 := fun e => by rw [e, hl2] at d4; cases d4
      exact ⟨(World.putObj_heap_other hne).trans d4, d5⟩
    refine wpIn_mono (k6.go (n - 1 - 1) _ a2 hrel2) fun e a3 w3 hh => ?_
    obtain ⟨s3, C3, rfl, m2, m3, m4, rfl, s4, hview, m6⟩ := hh
    obtain ⟨C4, hw4, m7, m8, m9⟩ := hview C3 a3 m2
    have hl3 : C3.w.heap[C.w.heap.size + 1]? = some (.loop { rec .ready with state := .busy }) :=
      (m4.fr.same (C.w.heap.size + 1) (by show _ < (C2.w.putObj _ _).heap.size; rw [World.putObj_size]; exact hlt2) hno2).trans (World.putObj_heap_same hlt2)
    have he := run_endRound (P := P) none hl3
    refine ⟨_, _, he, rfl, ?_⟩
    have hl4 : C4.w.heap[C.w.heap.size + 1]? = some (.loop { rec .ready with state := .busy }) := by rw [hw4]; exact hl3
    have q4 := quiet_put (o' := .loop (rec .ready)) hl4 rfl rfl
    refine ⟨C4.at (C4.w.putObj (C.w.heap.size + 1) (.loop (rec .ready))), s4.heap, s4.nx, s4.G, ?_, q4.valid m7.valid, m7.h, m7.K, j4.trans (k3.trans (q2.grow.trans (m3.trans (m8.trans q4.grow)))), ?_, m6⟩
    · show C4.w.putObj _ _ = _
      rw [hw4, hrec]
      simp
    · have f12 : Fr (C.at w1) C2 := j5.trans k4.fr
      have f34 : Fr (C2.at (C2.w.putObj (C.w.heap.size + 1) (.loop { rec .ready with state := .busy }))) C4 := m4.fr.trans m9
      have hsz2 : (C2.at (C2.w.putObj (C.w.heap.size + 1) (.loop { rec .ready with state := .busy }))).w.heap.size = C2.w.heap.size := World.putObj_size
      refine ⟨?_, fun B hB ho => ?_, fun B ho => ?_, ?_, ?_, ?_, ?_⟩
      · have := f12.size; have h3 := f34.size
        rw [hsz2] at h3
        show _ ≤ (C4.w.putObj _ _).heap.size
        rw [World.putObj_size]
        exact Nat.le_trans this h3
      · show (C4.w.putObj _ _).heap[B]? = w1.heap[B]?
        have hB2 : B < C2.w.heap.size := Nat.lt_of_lt_of_le hB f12.size
        by_cases hBl : B = C.w.heap.size + 1
        · subst hBl
          exact (World.putObj_heap_same (Array.getElem?_eq_some_iff.1 hl4).1).trans hL1.symm
        · rw [World.putObj_heap_other hBl]
          have hno : ¬ C2.owned B := fun h => (f12.own B h).elim ho (by omega)
          have e1 := f34.same B (by rw [hsz2]; exact hB2) hno
          have e2 := f12.same B hB ho
          exact e1.trans ((World.putObj_heap_other hBl).trans e2)
      · rcases f34.own B ho with h | h
        · exact f12.own B h
        · rw [hsz2] at h
          exact .inr (Nat.le_trans f12.size h)
      · exact f34.os.trans f12.os
      · exact f34.tape.trans f12.tape
      · exact f34.output.trans f12.output
      · exact f34.forb.trans f12.forb
  · -- behind the iterator
    rintro e w3 ⟨⟨v, rfl⟩, C', h, nx, G, rfl, j1, j2, j3, j4, j5, j6⟩
    have hl := (inFr j5 (C.w.heap.size + 1) (by omega) (by omega)).1.trans hL1
    obtain ⟨hD, hnD⟩ := inFr j5 C.w.heap.size (by omega) (by omega)
    refine ⟨none, _, by have := run_endLoop (P := P) hl (by rw [hrec]; simp); rw [hrec] at this; exact this, ?_⟩
    have q5 := quiet_put (o' := .loop { rec .ready with state := .exhausted }) hl rfl rfl
    have hfr : Fr C C' := (q1.fr (.refl C) fun _ h => h.elim).trans j5
    refine ⟨⟨s.tmps, h, nx, G⟩, C'.at (C'.w.putObj (C.w.heap.size + 1) (.loop { rec .ready with state := .exhausted })), by rw [hrec]; rfl, ?_, (q1.grow.trans j4).trans q5.grow, ⟨q5.fr hfr fun B hB => by omega, [C.w.heap.size], rfl, by simp⟩, hQ h nx G j6⟩
    obtain ⟨Ds, d1, d2, d3⟩ := hr.defers
    refine ⟨q5.valid j1, j2, fun t => q5.grow.rep (j4.rep (q1.grow.rep (hr.tmps t))), hr.size, ⟨C.w.heap.size :: Ds, by rw [d1]; rfl, List.nodup_cons.2 ⟨fun hm => ?_, d2⟩, fun D hDm => ?_⟩, j3⟩
    · have := (Array.getElem?_eq_some_iff.1 (d3 _ hm).1).1
      omega
    · rcases List.mem_cons.1 hDm with rfl | hDm
      · exact ⟨(World.putObj_heap_other (by omega)).trans (hD.trans hD1), hnD⟩
      · obtain ⟨d4, d5⟩ := d3 D hDm
        have hlt : D < C.w.heap.size := (Array.getElem?_eq_some_iff.1 d4).1
        refine ⟨(World.putObj_heap_other (by omega)).trans ((hfr.same D hlt d5).trans d4), fun ho => ?_⟩
        exact (hfr.own D ho).elim d5 (by omega)

end Go.AI

namespace Go.AI
variable {P : Program} {X : Ext} {N : Nat}

/-- Nothing owned, nothing forbidden. -/
def Cfg.open (w : World) : Cfg := ⟨fun _ => none, fun _ => none, fun _ => False, fun _ _ => False, w⟩

theorem open_valid (w : World) : Valid (Cfg.open w) :=
  ⟨fun _ _ h => (by cases h), fun _ _ _ _ _ _ _ h => (by cases h), fun _ _ _ _ h => (by cases h), fun _ _ h => h.elim⟩

theorem open_quiet {w : World} {C : Cfg} (h : Fr (Cfg.open w) C) : Quiet (fun _ => False) w C.w :=
  ⟨h.size, fun B hB => .inl (h.same B hB fun ⟨_, _, _, h, _⟩ => by cases h), h.os, h.tape, h.output⟩

/-- The iterator's frame over an invariant of whoever ranges. -/
structure RelY (J : Nat → World → Prop) (N tf : Nat) (vf : Value) (st : St × Nat) (a : Act) (w : World) : Prop where
  j : J st.2 w
  rel : RelS (Cfg.open w) N st.1 a
  defers : a.defers = []
  heap : st.1.heap = []
  G : st.1.G = 0
  fix : a.tmps.getD tf undef = vf

structure ExecY (P : Program) (J : Nat → World → Prop) (N tf : Nat) (vf : Value) (c : Code) (st : St × Nat) (Q : Exit → St × Nat → Prop) : Prop where
  go : ∀ (n : Nat) (a : Act) (w : World), RelY J N tf vf st a w → c.wpIn (W none) n P (fun e a' w' => ∃ st', RelY J N tf vf st' a' w' ∧ Q e st') a w

variable {J : Nat → World → Prop} {tf : Nat} {vf : Value}

def thenY (K : St × Nat → Prop) (Q : Exit → St × Nat → Prop) : Exit → St × Nat → Prop
  | .normal, s => K s
  | e, s => Q e s

def inBlkY (id : Nat) (Q : Exit → St × Nat → Prop) : Exit → St × Nat → Prop
  | .exit id', s => if id' = id then Q .normal s else Q (.exit id') s
  | e, s => Q e s

theorem ExecY.skip {st : St × Nat} {Q : Exit → St × Nat → Prop} (h : Q .normal st) : ExecY P J N tf vf .skip st Q := ⟨fun _ _ _ hr => wpIn_skip ⟨st, hr, h⟩⟩
theorem ExecY.exit {st : St × Nat} {Q : Exit → St × Nat → Prop} {id : Nat} (h : Q (.exit id) st) : ExecY P J N tf vf (.exit id) st Q := ⟨fun _ _ _ hr => wpIn_exit ⟨st, hr, h⟩⟩
theorem ExecY.ret {st : St × Nat} {Q : Exit → St × Nat → Prop} (h : Q .ret st) : ExecY P J N tf vf .ret st Q := ⟨fun _ _ _ hr => wpIn_ret ⟨st, hr, h⟩⟩

theorem ExecY.seq {x y : Code} {st : St × Nat} {Q : Exit → St × Nat → Prop} (h : ExecY P J N tf vf x st (thenY (fun st' => ExecY P J N tf vf y st' Q) Q)) : ExecY P J N tf vf (.seq x y) st Q := by
  constructor
  intro n a w hr
  refine wpIn_seq (wpIn_mono (h.go n a w hr) fun e a' w' hh => ?_)
  obtain ⟨st', h1, h2⟩ := hh
  cases e with
  | normal => exact h2.go n a' w' h1
  | _ => exact ⟨st', h1, h2⟩

theorem ExecY.block {id : Nat} {c : Code} {st : St × Nat} {Q : Exit → St × Nat → Prop} (h : ExecY P J N tf vf c st (inBlkY id Q)) : ExecY P J N tf vf (.block id c) st Q := by
  constructor
  intro n a w hr
  refine wpIn_block (wpIn_mono (h.go n a w hr) fun e a' w' hh => ?_)
  obtain ⟨st', h1, h2⟩ := hh
  cases e with
  | exit id' =>
    simp only [Exit.inBlock]
    simp only [inBlkY] at h2
    split
    · rename_i hid; rw [if_pos hid] at h2; exact ⟨st', h1, h2⟩
    · rename_i hid; rw [if_neg hid] at h2; exact ⟨st', h1, h2⟩
  | _ => exact ⟨st', h1, h2⟩

theorem ExecY.cond_split {c : Operand} {x y : Code} {st : St × Nat} {Q : Exit → St × Nat → Prop} {t : Bool} (hc : st.1.ev c = .bool t) (h1 : t = true → ExecY P J N tf vf x st Q) (h2 : t = false → ExecY P J N tf vf y st Q) : ExecY P J N tf vf (.cond c x y) st Q := by
  constructor
  intro n a w hr
  have h3 := ev_rep hr.rel.tmps c
  rw [hc] at h3
  generalize hv : a.eval c = v at h3
  cases h3
  refine wpIn_cond hv ?_
  cases t
  · exact (h2 rfl).go n a w hr
  · exact (h1 rfl).go n a w hr

theorem ExecY.loop {c : Code} {Q : Exit → St × Nat → Prop} (I : Nat → St × Nat → Prop) (round : ∀ m st, I m st → ExecY P J N tf vf c st (thenY (fun st' => ∃ m', m' < m ∧ I m' st') Q)) {st : St × Nat} {m : Nat} (h : I m st) : ExecY P J N tf vf (.loop c) st Q := by
  constructor
  intro n a w hr
  refine wpIn_loop_ind (fun m a' w' => ∃ st', RelY J N tf vf st' a' w' ∧ I m st') (fun m a' w' hh => ?_) m a w ⟨st, hr, h⟩
  obtain ⟨st1, h1, h2⟩ := hh
  refine wpIn_mono ((round m st1 h2).go n a' w' h1) fun e a2 w2 hh => ?_
  obtain ⟨st2, g1, g2⟩ := hh
  cases e with
  | normal =>
    obtain ⟨m', hlt, hI⟩ := g2
    exact ⟨m', hlt, st2, g1, hI⟩
  | _ => exact ⟨st2, g1, g2⟩

/-- Fewer places are known. -/
theorem ExecY.fewer {c : Code} {s s' : St} {i : Nat} {Q : Exit → St × Nat → Prop} (ht : ∀ t, tget s'.tmps t = tget s.tmps t ∨ tget s'.tmps t = .undef) (hh : s'.heap = []) (hG : s'.G = 0) (h : ExecY P J N tf vf c (s', i) Q) : ExecY P J N tf vf c (s, i) Q := by
  constructor
  intro n a w hr
  refine h.go n a w ⟨hr.j, ⟨hr.rel.valid, by rw [hh]; rfl, fun t => ?_, hr.rel.size, hr.rel.defers, fun g hg => hg.elim⟩, hr.defers, hh, hG, hr.fix⟩
  rcases ht t with h | h
  · rw [h]; exact hr.rel.tmps t
  · rw [h]; exact .undef _

theorem open_back {w : World} {C' : Cfg} {s : St} {a : Act} (hr : RelS C' N s a) (hf : Fr (Cfg.open w) C') (hh : s.heap = []) (hG : s.G = 0) : RelS (Cfg.open C'.w) N s a := by
  have hn : ∀ b, C'.h b = none := fun b => by rw [hr.h, hh]; rfl
  have hk : ∀ g, ¬ C'.K g := fun g hg => by have := hr.K g hg; omega
  have hforb : C'.forb = fun _ _ => False := hf.forb
  have hg : Grow C' (Cfg.open C'.w) := by
    refine ⟨fun g h => (hk g h).elim, fun _ _ h => (by cases h), fun _ _ _ hc _ => ⟨hc, fun h => h.elim, fun _ _ _ h => (by cases h)⟩, fun _ _ _ hb _ => ⟨hb, fun _ => ⟨fun h => h.elim, fun _ _ _ h => (by cases h)⟩⟩, fun _ _ h => h⟩
  exact ⟨open_valid _, by rw [hh]; rfl, fun t => hg.rep (hr.tmps t), hr.size, hr.defers.fr ⟨Nat.le_refl _, fun _ _ _ => rfl, fun _ ⟨_, _, _, h, _⟩ => (by cases h), rfl, rfl, rfl, hforb.symm⟩, fun _ h => h.elim⟩

theorem getD_put {a : Act} {d : Option Tmp} {v : Value} {t : Nat} (h : d ≠ some t) : (a.put d v).tmps.getD t undef = a.tmps.getD t undef := by
  cases d with
  | none => rfl
  | some d =>
    have hne : d ≠ t := fun e => h (by rw [e])
    simp only [Act.put]
    rw [Array.getD_eq_getD_getElem?, Array.getElem?_setIfInBounds_ne hne, ← Array.getD_eq_getD_getElem?]

/-- A segment of a region. -/
theorem runSeg_wp (hX : X.Sound P) {ops : Array Oper} {r : Option Nat} {n : Nat} {Q : Exit → Act → World → Prop} (rest : List Nat) : ∀ (m k : Nat) (s : St) (C : Cfg) (a : Act) (s' : St), k + m ≤ ops.size → dstsOk N ops.toList = true → RelS C N s a → runL P X ops ((ops.toList.drop k).take m) s = some s' →
    (∀ C' a', RelS C' N s' a' → Grow C C' → Fr C C' → a'.defers = a.defers → (∀ t, (∀ o ∈ ops.toList, o.dst ≠ some t) → a'.tmps.getD t undef = a.tmps.getD t undef) → wpOpsIn (W r) n P ops Q rest a' C'.w) → wpOpsIn (W r) n P ops Q (List.range' k m ++ rest) a C.w
  | 0, k, s, C, a, s', hk, _, hr, h, hQ => by
    simp only [List.take_zero, runL, Option.some.injEq] at h
    subst h
    exact hQ C a hr (.refl C) (.refl C) rfl fun _ _ => rfl
  | m + 1, k, s, C, a, s', hk, hN, hr, h, hQ => by
    have hlt : k < ops.size := by omega
    rw [List.range'_succ, List.cons_append, wpOpsIn_cons]
    have hd : ops.toList.drop k = ops[k] :: ops.toList.drop (k + 1) := by
      rw [List.drop_eq_getElem_cons (by simpa using hlt)]; simp
    rw [hd, List.take_succ_cons] at h
    simp only [runL] at h
    split at h
    · cases h
    · rename_i rec hrec
      have hge := stepA_G hrec
      refine step_wp hX hr.valid (Array.getElem?_eq_getElem hlt) hrec (ev_rep hr.tmps) (fun _ _ => rfl) (fun b hb => wanted_rep (fun d _ => hr.tmps d) hb) (fun b _ => congrFun hr.h b) (fun g h1 _ hk => ?_) (fun C' v hv hst => ?_)
      · have := hr.K g hk
        omega
      · refine runSeg_wp hX rest m (k + 1) _ C' _ s' (by omega) hN ?_ h fun C2 a2 h2 hg2 hf2 hd2 ht2 => hQ C2 a2 h2 (hst.grow.trans hg2) (hst.fr.trans hf2) (hd2.trans (defers_put a _ v)) fun t ht => (ht2 t ht).trans (getD_put (ht _ (by simp)))
        have hdst : ∀ t, ops[k].dst = some t → t < a.tmps.size := fun t ht => by rw [hr.size]; exact dstsOk_spec hN (by simp) ht
        refine ⟨hst.valid, ?_, fun t => ?_, by rw [size_put]; exact hr.size, by rw [defers_put]; exact hr.defers.fr hst.fr, fun g hg => ?_⟩
        · rw [hst.h, hget_app, hr.h]
        · rw [tget_app]
          exact tmps_put hst.grow hr.tmps hv hdst t
        · have hG' := hst.G
          simp only [St.app]
          rcases hst.K g hg with h1 | ⟨_, h2⟩
          · have := hr.K g h1; omega
          · exact h2

/-- No operation writes this place. -/
def noDst (t : Nat) (l : List Oper) : Bool := l.all fun o => o.dst != some t

theorem noDst_spec {t : Nat} {l : List Oper} (h : noDst t l = true) : ∀ o ∈ l, o.dst ≠ some t := by
  simpa [noDst] using h

theorem ExecY.region (hJq : ∀ i w w', J i w → Quiet (fun _ => False) w w' → J i w') (hX : X.Sound P) {ops : Array Oper} {id : Nat} {s s' : St} {i : Nat} {Q : Exit → St × Nat → Prop} (hN : dstsOk N ops.toList = true) (hf : noDst tf ops.toList = true)
    (h : runL P X ops ops.toList s = some s') (hh : s'.heap = []) (hG : s'.G = 0) (hQ : Q .normal (s', i)) : ExecY P J N tf vf (.region id ops false) (s, i) Q := by
  constructor
  intro n a w hr
  refine wpIn_region ?_
  have := runSeg_wp (N := N) (r := none) (n := n) (Q := fun e a' w' => ∃ st', RelY J N tf vf st' a' w' ∧ Q e st') hX [] ops.size 0 s (Cfg.open w) a s' (by omega) hN hr.rel (by rw [List.drop_zero, List.take_of_length_le (by simp)]; exact h) fun C' a' h1 h2 h3 h4 h5 => ⟨(s', i), ⟨hJq i w C'.w hr.j (open_quiet h3), open_back h1 h3 hh hG, by rw [h4]; exact hr.defers, hh, hG, (h5 tf (noDst_spec hf)).trans hr.fix⟩, hQ⟩
  rw [List.append_nil, ← List.range_eq_range'] at this
  exact this

theorem roundIn_any {r : Option Nat} {n m l : Nat} {f : FuncId} {tmps : Array Value} {assign body : Code} {w : World} {R : Ending → World → Prop} (h : RoundIn (W r) n P l f tmps assign body w R) : RoundIn (W r) m P l f tmps assign body w R :=
  ⟨h.1, fun c cs _ => h.2 c cs fun d hd => by simp [W, Fence.wide] at hd⟩

/-- A value that stands for the same whatever the world. -/
def Still (v : AVal) : Prop := ∀ C C' cv, VRep C v cv → VRep C' v cv

theorem still_int (k : IntKind) (n : Int) : Still (.int k n) := fun _ _ _ h => by cases h; exact .int k n
theorem still_bool (b : Bool) : Still (.bool b) := fun _ _ _ h => by cases h; exact .bool b
theorem still_undef : Still .undef := fun _ _ _ _ => .undef _
theorem still_yield (l : Nat) : Still (.fn (.yield l) [] []) := fun _ _ _ h => by
  cases h with
  | fn _ _ _ us vs h1 h2 _ _ => exact .fn _ _ _ us vs h1 h2 (by simp) (by simp)
theorem still_ints (cs : List AVal) (h : ∀ a ∈ cs, Still a) : Still (.agg cs) := fun C C' _ hr => by
  cases hr with
  | agg _ vs hl hrep => exact .agg cs vs hl fun i a v hi hv => h a (List.mem_of_getElem? hi) C C' v (hrep i a v hi hv)


/-- A region in which one value is handed over. -/
theorem ExecY.yield (hJq : ∀ i w w', J i w → Quiet (fun _ => False) w w' → J i w') (hX : X.Sound P) {n0 l : Nat} {xs : List AVal}
    (hJy : ∀ (i : Nat) w x v, xs[i]? = some x → (∀ C, VRep C x v) → J i w → YieldAt (W none) n0 P l #[v] w fun e w' => e = .returned (.bool true) ∧ J (i + 1) w')
    {ops : Array Oper} {id : Nat} {s s1 s2 s3 : St} {i d : Nat} {Q : Exit → St × Nat → Prop} (k : Nat) {o : Oper} {c : Call} {f y : Operand} (hN : dstsOk N ops.toList = true) (hfx : noDst tf ops.toList = true)
    (h1 : runL P X ops (ops.toList.take k) s = some s1) (hh1 : s1.heap = []) (hG1 : s1.G = 0) (ho : ops[k]? = some o) (hg : o.guard = none) (hd : o.dst = some d) (hop : o.op = .call c) (hcal : c.callee = .value f) (hargs : c.args = #[y]) (hf : s1.ev f = .fn (.yield l) [] [])
    {x : AVal} (hy : s1.ev y = x) (hx : xs[i]? = some x) (hst : Still x)
    (hre : ∀ (a : Act) (w w' : World), J (i + 1) w' → a.tmps.getD tf undef = vf → (∀ t, VRep (Cfg.open w) (tget s1.tmps t) (a.tmps.getD t undef)) → ∀ t, VRep (Cfg.open w') (tget s2.tmps t) (a.tmps.getD t undef))
    (h3 : runL P X ops (ops.toList.drop (k + 1)) ⟨(d, .bool true) :: s2.tmps, [], s2.nx, 0⟩ = some s3) (hh3 : s3.heap = []) (hG3 : s3.G = 0) (hQ : Q .normal (s3, i + 1)) : ExecY P J N tf vf (.region id ops false) (s, i) Q := by
  constructor
  intro n a w hr
  refine wpIn_region ?_
  have hk : k < ops.size := (Array.getElem?_eq_some_iff.1 ho).1
  have hrange : List.range ops.size = List.range' 0 k ++ (k :: List.range' (k + 1) (ops.size - (k + 1))) := by
    have e1 : List.range' 0 k ++ List.range' (0 + k) (ops.size - k) = List.range' 0 (k + (ops.size - k)) := List.range'_append_1
    have e2 : ops.size - k = (ops.size - (k + 1)) + 1 := by omega
    have e3 : k + (ops.size - k) = ops.size := by omega
    rw [e3, e2, List.range'_succ, Nat.zero_add] at e1
    rw [List.range_eq_range']
    exact e1.symm
  rw [hrange]
  refine runSeg_wp (N := N) hX _ k 0 s (Cfg.open w) a s1 (by omega) hN hr.rel (by simpa using h1) fun C1 a1 r1 _ f1 d1 t1 => ?_
  have hj1 := hJq i w C1.w hr.j (open_quiet f1)
  have ho1 := open_back r1 f1 hh1 hG1
  have hfix1 := (t1 tf (noDst_spec hfx)).trans hr.fix
  rw [wpOpsIn_cons]
  unfold wpOpIn
  rw [ho]
  simp only
  rw [if_pos (by simp [Region.wanted, hg])]
  -- the call
  have hfv := ev_rep ho1.tmps f
  rw [hf] at hfv
  have hfv' : a1.eval f = .func (.yield l) #[] #[] := by
    generalize a1.eval f = v at hfv
    cases hfv with
    | fn _ _ _ us vs e1 e2 _ _ =>
      have : us = #[] := Array.eq_empty_of_size_eq_zero (by simpa using e1.symm)
      have : vs = #[] := Array.eq_empty_of_size_eq_zero (by simpa using e2.symm)
      subst_vars; rfl
  have hyv := ev_rep ho1.tmps y
  rw [hy] at hyv
  obtain ⟨fn, tm, asg, bod, hrun, hround⟩ := hJy i C1.w x (a1.eval y) hx (fun C => hst _ C _ hyv) hj1
  refine ⟨fun _ _ => trivial, ?_⟩
  have hsem : (o.semAt (W none).round a1.eval) = execOp a1.eval o := Oper.semAt_eq _ _ _ (by rw [hop]; simp)
  rw [hsem]
  have hex : (execOp a1.eval o).run P C1.w = .ok (.round l fn tm asg bod) C1.w := by
    simp only [execOp, hop, resolve, hcal, hargs]
    simp [Deferred.ofValue, hfv', invoke, hrun]
  rw [hex]
  refine ⟨fun h => by simp [W, Fence.wide] at h, roundIn_any (hround.mono fun e w' hh => ?_)⟩
  obtain ⟨rfl, hj2⟩ := hh
  have hrel2 : RelS (Cfg.open w') N ⟨(d, .bool true) :: s2.tmps, [], s2.nx, 0⟩ (a1.put o.dst (.bool true)) := by
    refine ⟨open_valid _, rfl, fun t => ?_, by rw [size_put]; exact r1.size, by rw [defers_put, d1, hr.defers]; exact .nil _, fun _ h => h.elim⟩
    have := tmps_put (C := Cfg.open w') (.refl _) (hre a1 C1.w w' hj2 hfix1 ho1.tmps) (d := o.dst) (v := .bool true) (x := .bool true) (.bool true) (fun t ht => by rw [r1.size]; exact dstsOk_spec hN (by simpa using Array.mem_of_getElem? ho) ht) t
    rw [hd] at this ⊢
    simpa only [tget, Option.some.injEq] using this
  have := runSeg_wp (N := N) (r := none) (n := n) (Q := fun e a' w' => ∃ st', RelY J N tf vf st' a' w' ∧ Q e st') hX [] (ops.size - (k + 1)) (k + 1) _ (Cfg.open w') (a1.put o.dst (.bool true)) s3 (by omega) hN hrel2 (by rw [List.take_of_length_le (by simp)]; exact h3) fun C3 a3 r3 _ f3 d3 t3 => by
    refine ⟨(s3, i + 1), ⟨hJq (i + 1) w' C3.w hj2 (open_quiet f3), open_back r3 f3 hh3 hG3, by rw [d3, defers_put, d1]; exact hr.defers, hh3, hG3, ?_⟩, hQ⟩
    rw [t3 tf (noDst_spec hfx), getD_put (noDst_spec hfx o (by simpa using Array.mem_of_getElem? ho))]
    exact hfix1
  rw [List.append_nil] at this
  exact this

end Go.AI
