/- What a piece of code does to an abstract state: rules. From one configuration to another: values that name no block, or known blocks only. A function's contract, from what its body does. Contracts of functions that are handed no block; tables of contracts. No condition. -/
import Derived.Test.YtlidakhdcnkabaaM04
import Derived.RangeFuncLeaves
import Derived.RangeFuncRecord
namespace Go.AI
variable {P : Program} {X : Ext} {N : Nat} {r0 : Option Nat}

/-- What is as it was; new marks are new blocks'. -/
structure FrA (C : Cfg) (a : Act) (C' : Cfg) (a' : Act) : Prop where
  fr : Fr C C'
  new : ∃ Ds : List Nat, a'.defers = Ds.map mark ++ a.defers ∧ ∀ D ∈ Ds, C.w.heap.size ≤ D

theorem FrA.refl (C : Cfg) (a : Act) : FrA C a C a := ⟨.refl C, [], rfl, by simp⟩
theorem FrA.of {C C' : Cfg} {a a' : Act} (h : Fr C C') (hd : a'.defers = a.defers) : FrA C a C' a' := ⟨h, [], hd, by simp⟩
theorem FrA.trans {C1 C2 C3 : Cfg} {a1 a2 a3 : Act} (h : FrA C1 a1 C2 a2) (h' : FrA C2 a2 C3 a3) : FrA C1 a1 C3 a3 := by
  obtain ⟨f1, D1, e1, n1⟩ := h
  obtain ⟨f2, D2, e2, n2⟩ := h'
  refine ⟨f1.trans f2, D2 ++ D1, by rw [e2, e1]; simp, fun D hD => ?_⟩
  rcases List.mem_append.1 hD with h | h
  · exact Nat.le_trans f1.size (n2 D h)
  · exact n1 D h

/-- After c, from s, Q holds. -/
structure Exec (P : Program) (r0 : Option Nat) (N : Nat) (c : Code) (s : St) (Q : Exit → St → Prop) : Prop where
  go : ∀ (n : Nat) (C : Cfg) (a : Act), RelS C N s a → c.wpIn (W r0) n P (fun e a' w' => ∃ s' C', C'.w = w' ∧ RelS C' N s' a' ∧ Grow C C' ∧ FrA C a C' a' ∧ Q e s') a C.w

/-- Another view of the same state. -/
def View (N : Nat) (s s' : St) : Prop := ∀ (C : Cfg) (a : Act), RelS C N s a → ∃ C', C'.w = C.w ∧ RelS C' N s' a ∧ Grow C C' ∧ Fr C C'

def andThen (K : St → Prop) (Q : Exit → St → Prop) : Exit → St → Prop
  | .normal, s => K s
  | e, s => Q e s

def inBlk (id : Nat) (Q : Exit → St → Prop) : Exit → St → Prop
  | .exit id', s => if id' = id then Q .normal s else Q (.exit id') s
  | e, s => Q e s

theorem Exec.mono {c : Code} {s : St} {Q Q' : Exit → St → Prop} (h : Exec P r0 N c s Q) (hq : ∀ e s, Q e s → Q' e s) : Exec P r0 N c s Q' :=
  ⟨fun n C a hr => wpIn_mono (h.go n C a hr) fun _ _ _ ⟨s', C', h1, h2, h3, h4, h5⟩ => ⟨s', C', h1, h2, h3, h4, hq _ _ h5⟩⟩

theorem Exec.view {c : Code} {s s' : St} {Q : Exit → St → Prop} (hv : View N s s') (h : Exec P r0 N c s' Q) : Exec P r0 N c s Q := by
  constructor
  intro n C a hr
  obtain ⟨C1, hw, hr1, hg1, hf1⟩ := hv C a hr
  rw [← hw]
  exact wpIn_mono (h.go n C1 a hr1) fun _ _ _ ⟨s', C', h1, h2, h3, h4, h5⟩ => ⟨s', C', h1, h2, hg1.trans h3, (FrA.of hf1 rfl).trans h4, h5⟩

theorem Exec.skip {s : St} {Q : Exit → St → Prop} (h : Q .normal s) : Exec P r0 N .skip s Q :=
  ⟨fun _ C a hr => wpIn_skip ⟨s, C, rfl, hr, .refl C, .refl C a, h⟩⟩

theorem Exec.exit {s : St} {Q : Exit → St → Prop} {id : Nat} (h : Q (.exit id) s) : Exec P r0 N (.exit id) s Q :=
  ⟨fun _ C a hr => wpIn_exit ⟨s, C, rfl, hr, .refl C, .refl C a, h⟩⟩

theorem Exec.ret {s : St} {Q : Exit → St → Prop} (h : Q .ret s) : Exec P r0 N .ret s Q :=
  ⟨fun _ C a hr => wpIn_ret ⟨s, C, rfl, hr, .refl C, .refl C a, h⟩⟩

theorem Exec.seq {x y : Code} {s : St} {Q : Exit → St → Prop} (h : Exec P r0 N x s (andThen (fun s' => Exec P r0 N y s' Q) Q)) : Exec P r0 N (.seq x y) s Q := by
  constructor
  intro n C a hr
  refine wpIn_seq (wpIn_mono (h.go n C a hr) fun e a' w' hh => ?_)
  obtain ⟨s', C', rfl, h2, h3, h4, h5⟩ := hh
  cases e with
  | normal => exact wpIn_mono (h5.go n C' a' h2) fun _ _ _ ⟨s2, C2, g1, g2, g3, g4, g5⟩ => ⟨s2, C2, g1, g2, h3.trans g3, h4.trans g4, g5⟩
  | _ => exact ⟨s', C', rfl, h2, h3, h4, h5⟩

theorem Exec.block {id : Nat} {c : Code} {s : St} {Q : Exit → St → Prop} (h : Exec P r0 N c s (inBlk id Q)) : Exec P r0 N (.block id c) s Q := by
  constructor
  intro n C a hr
  refine wpIn_block (wpIn_mono (h.go n C a hr) fun e a' w' hh => ?_)
  obtain ⟨s', C', h1, h2, h3, h4, h5⟩ := hh
  cases e with
  | exit id' =>
    simp only [Exit.inBlock]
    simp only [inBlk] at h5
    split
    · rename_i hid; rw [if_pos hid] at h5; exact ⟨s', C', h1, h2, h3, h4, h5⟩
    · rename_i hid; rw [if_neg hid] at h5; exact ⟨s', C', h1, h2, h3, h4, h5⟩
  | _ => exact ⟨s', C', h1, h2, h3, h4, h5⟩

theorem Exec.cond {c : Operand} {x y : Code} {s : St} {Q : Exit → St → Prop} {t : Bool} (hc : s.ev c = .bool t) (h : Exec P r0 N (if t then x else y) s Q) : Exec P r0 N (.cond c x y) s Q := by
  constructor
  intro n C a hr
  have h1 := ev_rep hr.tmps c
  rw [hc] at h1
  generalize hv : a.eval c = v at h1
  cases h1
  exact wpIn_cond hv (h.go n C a hr)

theorem Exec.cond_split {c : Operand} {x y : Code} {s : St} {Q : Exit → St → Prop} {t : Bool} (hc : s.ev c = .bool t) (h1 : t = true → Exec P r0 N x s Q) (h2 : t = false → Exec P r0 N y s Q) : Exec P r0 N (.cond c x y) s Q :=
  .cond hc (by cases t; exact h2 rfl; exact h1 rfl)

theorem Exec.cond_any {c : Operand} {x y : Code} {s : St} {Q : Exit → St → Prop} (hc : s.ev c = .anyb) (h1 : Exec P r0 N x s Q) (h2 : Exec P r0 N y s Q) : Exec P r0 N (.cond c x y) s Q := by
  constructor
  intro n C a hr
  have h3 := ev_rep hr.tmps c
  rw [hc] at h3
  generalize hv : a.eval c = v at h3
  cases h3 with
  | anyb t =>
    refine wpIn_cond hv ?_
    cases t
    · exact h2.go n C a hr
    · exact h1.go n C a hr

theorem wpIn_loop_ind {F : Fence} {n : Nat} {c : Code} {Q : Exit → Act → World → Prop} (J : Nat → Act → World → Prop) (round : ∀ m a w, J m a w → c.wpIn F n P (Exit.then (fun a' w' => ∃ m', m' < m ∧ J m' a' w') Q) a w) :
    ∀ (m : Nat) (a : Act) (w : World), J m a w → (Code.loop c).wpIn F n P Q a w := by
  intro m a w hj b k cs hro hb hr
  have key : ∀ j a w, J j a w → ∃ e a' w', Q e a' w' ∧ ArrivesIn (Machine.fenced P F) P (lone (b.atR a (.code c :: .inLoop c :: k)) cs w) b k cs e a' w' := by
    intro j
    induction j using Nat.strongRecOn with
    | _ j ih =>
      intro a w hI
      obtain ⟨e, a₁, w₁, hq, harr⟩ := round j a w hI b (.inLoop c :: k) cs hro hb hr
      cases e with
      | normal =>
        obtain ⟨m', hlt, hI₁⟩ := hq
        obtain ⟨e₂, a₂, w₂, hq₂, harr₂⟩ := ih m' hlt a₁ w₁ hI₁
        exact ⟨e₂, a₂, w₂, hq₂, .of_steps (StepsIn.trans harr (.one (fenced_calm hb hr rfl) stepR_inLoop)) harr₂⟩
      | exit id => exact ⟨_, a₁, w₁, hq, .pass (x := .inLoop c) rfl (fun _ _ => .inl (by simp)) harr⟩
      | goto l => exact ⟨_, a₁, w₁, hq, .pass (x := .inLoop c) rfl (fun _ _ => .inl (by simp)) harr⟩
      | ret => exact ⟨_, a₁, w₁, hq, .pass (x := .inLoop c) rfl (fun _ _ => .inl (by simp)) harr⟩
      | panic ch => exact ⟨_, a₁, w₁, hq, .pass (x := .inLoop c) rfl (fun _ _ => .inl (by simp)) harr⟩
      | outgrown => exact ⟨_, a₁, w₁, hq, .pass (x := .inLoop c) rfl (fun _ _ => .inl (by simp)) harr⟩
  obtain ⟨e, a', w', hq, harr⟩ := key m a w hj
  exact ⟨e, a', w', hq, .of_steps (.one (fenced_calm hb hr rfl) stepR_loop) harr⟩

/-- A loop: I m is what holds at its head while m rounds at most are to come. -/
theorem Exec.loop {c : Code} {Q : Exit → St → Prop} (I : Nat → St → Prop) (round : ∀ m s, I m s → Exec P r0 N c s (andThen (fun s' => ∃ m', m' < m ∧ I m' s') Q)) {s : St} {m : Nat} (h : I m s) : Exec P r0 N (.loop c) s Q := by
  constructor
  intro n C a hr
  refine wpIn_loop_ind (fun m a' w => ∃ s' C', C'.w = w ∧ RelS C' N s' a' ∧ Grow C C' ∧ FrA C a C' a' ∧ I m s') (fun m a' w' hh => ?_) m a C.w ⟨s, C, rfl, hr, .refl C, .refl C a, h⟩
  obtain ⟨s1, C1, rfl, h2, h3, h4, h5⟩ := hh
  refine wpIn_mono ((round m s1 h5).go n C1 a' h2) fun e a2 w2 hh => ?_
  obtain ⟨s2, C2, g1, g2, g3, g4, g5⟩ := hh
  cases e with
  | normal =>
    obtain ⟨m', hlt, hI⟩ := g5
    exact ⟨m', hlt, s2, C2, g1, g2, h3.trans g3, h4.trans g4, hI⟩
  | _ => exact ⟨s2, C2, g1, g2, h3.trans g3, h4.trans g4, g5⟩

/-- The same, with a view taken at the loop's head. -/
theorem Exec.region (hX : X.Sound P) {ops : Array Oper} {id : Nat} {s s' : St} {Q : Exit → St → Prop} (hN : dstsOk N ops.toList = true) (h : runL P X ops ops.toList s = some s') (hQ : Q .normal s') : Exec P r0 N (.region id ops false) s Q :=
  ⟨fun _ _ _ hr => region_wp hX hN hr h fun C' _ h1 h2 h3 h4 => ⟨s', C', rfl, h1, h2, .of h3 h4, hQ⟩⟩

theorem Exec.drawn (hm : P.follows .mixedOrders = true) (hX : X.Sound P) {ops : Array Oper} {id : Nat} {s s' : St} {recs : List Rec} {Q : Exit → St → Prop} (hok : drawOk ops = true) (hN : dstsOk N ops.toList = true) (tr : Tr P X ops ops.toList s recs s')
    (hl : looseOk recs (loose ops)) (hQ : Q .normal s') : Exec P r0 N (.region id ops true) s Q :=
  ⟨fun _ _ _ hr => drawn_wp hm hX hok hN tr hl hr fun C' _ h1 h2 h3 h4 => ⟨s', C', rfl, h1, h2, .of h3 h4, hQ⟩⟩

/-! ### Views -/
theorem View.refl (s : St) : View N s s := fun C _ hr => ⟨C, rfl, hr, .refl C, .refl C⟩

theorem View.trans {s1 s2 s3 : St} (h : View N s1 s2) (h' : View N s2 s3) : View N s1 s3 := by
  intro C a hr
  obtain ⟨C1, w1, r1, g1, f1⟩ := h C a hr
  obtain ⟨C2, w2, r2, g2, f2⟩ := h' C1 a r1
  exact ⟨C2, w2.trans w1, r2, g1.trans g2, f1.trans f2⟩

def keepT (ts : List Nat) (l : List (Nat × AVal)) : List (Nat × AVal) := ts.map fun t => (t, tget l t)
def keepH (bs : List Nat) (h : AHeap) : AHeap := bs.map fun b => (b, hget h b)

theorem tget_keepT (l : List (Nat × AVal)) (t : Nat) : ∀ ts : List Nat, tget (keepT ts l) t = tget l t ∨ tget (keepT ts l) t = .undef
  | [] => .inr rfl
  | u :: ts => by
    simp only [keepT, List.map_cons, tget]
    by_cases h : u = t
    · rw [if_pos h, h]; exact .inl rfl
    · rw [if_neg h]; exact tget_keepT l t ts

theorem hget_keepH (h : AHeap) (b : Nat) : ∀ bs : List Nat, hget (keepH bs h) b = if b ∈ bs then hget h b else none
  | [] => by simp [keepH, hget]
  | c :: bs => by
    have ih := hget_keepH h b bs
    simp only [keepH, List.map_cons, hget] at ih ⊢
    by_cases hc : c = b
    · subst hc; simp
    · rw [if_neg hc, ih]
      simp [Ne.symm hc]

theorem drop_blocks : ∀ (D : List Nat) (C : Cfg), Valid C → ∃ C', FzC C C' ∧ ∀ b, C'.h b = if b ∈ D then none else C.h b
  | [], C, hv => ⟨C, .refl hv, by simp⟩
  | d :: D, C, hv => by
    obtain ⟨C1, h1, h2⟩ := drop_fzc hv d
    obtain ⟨C2, h3, h4⟩ := drop_blocks D C1 h1.valid
    refine ⟨C2, h1.trans h3, fun b => ?_⟩
    rw [h4, h2]
    by_cases hb : b = d
    · subst hb; simp [setAt]
    · simp [setAt, hb]

theorem FzC.rel {C C1 : Cfg} {s s' : St} {a : Act} (hf : FzC C C1) (hr : RelS C N s a) (hh : C1.h = hget s'.heap) (ht : ∀ t, tget s'.tmps t = tget s.tmps t ∨ tget s'.tmps t = .undef) (hG : s.G ≤ s'.G) : RelS C1 N s' a :=
  ⟨hf.valid, hh, fun t => by
    rcases ht t with h | h
    · rw [h]; exact hf.grow.rep (hr.tmps t)
    · rw [h]; exact .undef _, hr.size, hr.defers.fr hf.fr, fun g hg => Nat.lt_of_lt_of_le (hr.K g (hf.K g hg)) hG⟩

theorem hget_none {h : AHeap} {b : Nat} (hb : b ∉ h.map (·.1)) : hget h b = none := by
  induction h with
  | nil => rfl
  | cons e h ih =>
    simp only [List.map_cons, List.mem_cons, not_or] at hb
    simp only [hget]
    rw [if_neg (Ne.symm hb.1)]
    exact ih hb.2

/-- Forget places, blocks; start the numbering of blocks anew; let generations pass. -/
theorem View.norm (s : St) (ts bs : List Nat) (nx G : Nat) (hG : s.G ≤ G) : View N s ⟨keepT ts s.tmps, keepH bs s.heap, nx, G⟩ := by
  intro C a hr
  obtain ⟨C1, h1, h2⟩ := drop_blocks ((s.heap.map (·.1)).filter fun b => !bs.contains b) C hr.valid
  refine ⟨C1, h1.w, h1.rel hr ?_ (fun t => tget_keepT s.tmps t ts) hG, h1.grow, h1.fr⟩
  funext b
  show C1.h b = hget (keepH bs s.heap) b
  rw [h2, hget_keepH, hr.h]
  by_cases hb : b ∈ bs
  · simp [hb]
  · simp only [hb, if_false]
    by_cases hk : b ∈ s.heap.map (·.1)
    · rw [if_pos (by simp only [List.mem_filter, hk, true_and, Bool.not_eq_true']; simpa using hb)]
    · rw [hget_none hk]; simp

/-- A nil slice in a place becomes an empty slice of a row that has not been laid yet. -/
theorem View.virt (s : St) (t b sz : Nat) (wr : Bool) (h : tget s.tmps t = .il [] true) : View N s ⟨(t, .sl b s.G 0 0) :: s.tmps, (b, some (.row sz [] s.G wr)) :: s.heap, s.nx, s.G + 1⟩ := by
  intro C a hr
  have hf : ¬ C.K s.G := fun hk => by have := hr.K _ hk; omega
  have hc := chg_virtual (C := C) b sz wr hf
  have hg := chg_grow hc
  have hb' : (C.chg b (some (.row sz [] s.G wr)) none C.w s.G (s.G + 1)).h b = some (.row sz [] s.G wr) := by simp [Cfg.chg, setAt]
  have hK : (C.chg b (some (.row sz [] s.G wr)) none C.w s.G (s.G + 1)).K s.G := .inr ⟨Nat.le_refl _, Nat.lt_succ_self _⟩
  refine ⟨C.chg b (some (.row sz [] s.G wr)) none C.w s.G (s.G + 1), rfl, ⟨chg_valid hr.valid hc fun _ y hy => ?_, ?_, fun u => ?_, hr.size, hr.defers.fr (chg_fr hc), fun g hk => ?_⟩, hg, chg_fr hc⟩
  · cases hy
    exact ⟨hK, by simp, .inl ⟨by simp [Cfg.chg, setAt], rfl⟩⟩
  · funext c
    show setAt C.h b _ c = hget _ c
    simp only [hget, setAt, hr.h]
    by_cases hcb : c = b
    · subst hcb; simp
    · rw [if_neg hcb, if_neg (Ne.symm hcb)]
  · simp only [tget]
    by_cases hu : t = u
    · rw [if_pos hu]
      have h1 := hr.tmps t
      rw [h] at h1
      rw [← hu]
      generalize a.tmps.getD t undef = v at h1
      generalize hes : ([] : List (List AVal)) = es at h1
      cases h1 with
      | il es ex p cap B o sz' vs hcap hex hmax hp hsz hv hc' =>
        subst hes
        have hcap0 : cap = 0 := hex rfl
        subst hcap0
        refine .sl b s.G 0 0 p 0 0 hK fun sz1 es1 wr1 hb1 => ?_
        rw [hb'] at hb1
        cases hb1
        exact ⟨rfl, Nat.le_refl _, .inl ⟨rfl, rfl⟩⟩
    · rw [if_neg hu]
      exact hg.rep (hr.tmps u)
  · rcases hk with hk | ⟨_, hk⟩
    · have := hr.K g hk
      show g < s.G + 1
      omega
    · exact hk

end Go.AI

namespace Go.AI
variable {P : Program} {X : Ext} {N : Nat}

/-- All blocks that a value names, with their generations, are p's. -/
inductive Within (p : Nat → Nat → Prop) : AVal → Prop
  | int (k : IntKind) (n : Int) : Within p (.int k n)
  | bool (b : Bool) : Within p (.bool b)
  | str (s : ByteArray) : Within p (.str s)
  | agg (cs : List AVal) (h : ∀ a ∈ cs, Within p a) : Within p (.agg cs)
  | tup (cs : List AVal) (h : ∀ a ∈ cs, Within p a) : Within p (.tup cs)
  | nilp : Within p .nilp
  | ptr (b g i off : Nat) (h : p b g) : Within p (.ptr b g i off)
  | pim (cs : List AVal) (off : Nat) (h : ∀ a ∈ cs, Within p a) : Within p (.pim cs off)
  | sl (b g lo n : Nat) (h : p b g) : Within p (.sl b g lo n)
  | il (es : List (List AVal)) (ex : Bool) (h : ∀ e ∈ es, ∀ a ∈ e, Within p a) : Within p (.il es ex)
  | mp (b g : Nat) (h : p b g) : Within p (.mp b g)
  | im (es : List (AVal × AVal)) (h : ∀ e ∈ es, Within p e.1) (h' : ∀ e ∈ es, Within p e.2) : Within p (.im es)
  | anyb : Within p .anyb
  | fn (f : Fn) (fs cs : List AVal) (h : ∀ a ∈ fs, Within p a) (h' : ∀ a ∈ cs, Within p a) : Within p (.fn f fs cs)
  | nilf : Within p .nilf
  | undef : Within p .undef

abbrev Free : AVal → Prop := Within fun _ _ => False

section
variable {p : Nat → Nat → Prop}
@[simp] theorem Within.int_iff (k : IntKind) (n : Int) : Within p (.int k n) ↔ True := ⟨fun _ => trivial, fun _ => .int k n⟩
@[simp] theorem Within.bool_iff (b : Bool) : Within p (.bool b) ↔ True := ⟨fun _ => trivial, fun _ => .bool b⟩
@[simp] theorem Within.str_iff (b : ByteArray) : Within p (.str b) ↔ True := ⟨fun _ => trivial, fun _ => .str b⟩
@[simp] theorem Within.nilp_iff : Within p .nilp ↔ True := ⟨fun _ => trivial, fun _ => .nilp⟩
@[simp] theorem Within.nilf_iff : Within p .nilf ↔ True := ⟨fun _ => trivial, fun _ => .nilf⟩
@[simp] theorem Within.anyb_iff : Within p .anyb ↔ True := ⟨fun _ => trivial, fun _ => .anyb⟩
@[simp] theorem Within.undef_iff : Within p .undef ↔ True := ⟨fun _ => trivial, fun _ => .undef⟩
@[simp] theorem Within.agg_iff (cs : List AVal) : Within p (.agg cs) ↔ ∀ a ∈ cs, Within p a := ⟨fun h => by cases h; assumption, .agg cs⟩
@[simp] theorem Within.tup_iff (cs : List AVal) : Within p (.tup cs) ↔ ∀ a ∈ cs, Within p a := ⟨fun h => by cases h; assumption, .tup cs⟩
@[simp] theorem Within.pim_iff (cs : List AVal) (o : Nat) : Within p (.pim cs o) ↔ ∀ a ∈ cs, Within p a := ⟨fun h => by cases h; assumption, .pim cs o⟩
@[simp] theorem Within.ptr_iff (b g i o : Nat) : Within p (.ptr b g i o) ↔ p b g := ⟨fun h => by cases h; assumption, .ptr b g i o⟩
@[simp] theorem Within.sl_iff (b g i o : Nat) : Within p (.sl b g i o) ↔ p b g := ⟨fun h => by cases h; assumption, .sl b g i o⟩
@[simp] theorem Within.mp_iff (b g : Nat) : Within p (.mp b g) ↔ p b g := ⟨fun h => by cases h; assumption, .mp b g⟩
@[simp] theorem Within.il_iff (es : List (List AVal)) (ex : Bool) : Within p (.il es ex) ↔ ∀ e ∈ es, ∀ a ∈ e, Within p a := ⟨fun h => by cases h; assumption, .il es ex⟩
@[simp] theorem Within.im_iff (es : List (AVal × AVal)) : Within p (.im es) ↔ ∀ e ∈ es, Within p e.1 ∧ Within p e.2 := ⟨fun h => by cases h with | im _ h h' => exact fun e he => ⟨h e he, h' e he⟩, fun h => .im es (fun e he => (h e he).1) fun e he => (h e he).2⟩
@[simp] theorem Within.fn_iff (f : Fn) (fs cs : List AVal) : Within p (.fn f fs cs) ↔ (∀ a ∈ fs, Within p a) ∧ ∀ a ∈ cs, Within p a := ⟨fun h => by cases h with | fn _ _ _ h h' => exact ⟨h, h'⟩, fun h => .fn f fs cs h.1 h.2⟩
end

theorem Within.mono {p q : Nat → Nat → Prop} (hpq : ∀ b g, p b g → q b g) {a : AVal} (h : Within p a) : Within q a := by
  induction h with
  | int k n => exact .int k n
  | bool b => exact .bool b
  | str s => exact .str s
  | agg cs _ ih => exact .agg cs ih
  | tup cs _ ih => exact .tup cs ih
  | nilp => exact .nilp
  | ptr b g i off h => exact .ptr b g i off (hpq _ _ h)
  | pim cs off _ ih => exact .pim cs off ih
  | sl b g lo n h => exact .sl b g lo n (hpq _ _ h)
  | il es ex _ ih => exact .il es ex ih
  | mp b g h => exact .mp b g (hpq _ _ h)
  | im es _ _ ih ih' => exact .im es ih ih'
  | anyb => exact .anyb
  | fn f fs cs _ _ ih ih' => exact .fn f fs cs ih ih'
  | nilf => exact .nilf
  | undef => exact .undef

/-- What is needed to carry values over. -/
structure Tf (p : Nat → Nat → Prop) (C C' : Cfg) : Prop where
  K : ∀ b g, p b g → C'.K g
  live : ∀ b g x', p b g → C'.h b = some x' → x'.gen = g → ∃ x, C.h b = some x ∧ C'.ι b = C.ι b ∧ sameKind x x'
  cell : ∀ B o v, C.w.cell? ⟨B, o, none⟩ = some v → C.safe B o → C'.w.cell? ⟨B, o, none⟩ = some v ∧ C'.safe B o
  mapo : ∀ B ents clock, C.w.heap[B]? = some (.map ents clock) → (∀ o, C.safe B o) → C'.w.heap[B]? = some (.map ents clock) ∧ ∀ o, C'.safe B o
  shape : ∀ B x, C.w.shape? B = some x → C'.w.shape? B = some x

theorem Tf.rep {p : Nat → Nat → Prop} {C C' : Cfg} (T : Tf p C C') {a : AVal} {v : Value} (h : VRep C a v) (hw : Within p a) : VRep C' a v := by
  induction h with
  | int k n => exact .int k n
  | bool b => exact .bool b
  | anyb b => exact .anyb b
  | str s => exact .str s
  | agg cs vs hl _ ih => exact .agg cs vs hl fun i a v hi hv => ih i a v hi hv ((Within.agg_iff _).1 hw a (List.mem_of_getElem? hi))
  | tup cs vs hl _ ih => exact .tup cs vs hl fun i a v hi hv => ih i a v hi hv ((Within.tup_iff _).1 hw a (List.mem_of_getElem? hi))
  | nilp => exact .nilp
  | ptr b g i off q hk h =>
    have hp := (Within.ptr_iff b g i off).1 hw
    refine .ptr b g i off q (T.K b g hp) fun sz es wr hb => ?_
    obtain ⟨x, hx, hi, hs⟩ := T.live b g _ hp hb rfl
    cases x with
    | row sz0 es0 g0 wr0 =>
      obtain ⟨rfl, rfl, hle⟩ := hs
      obtain ⟨B, s, h1, h2⟩ := h _ _ _ hx
      exact ⟨B, s, hi.trans h1, h2⟩
    | map _ _ _ => exact hs.elim
  | pim cs off B o vs _ hc ih => exact .pim cs off B o vs (fun j a hj => ih j a hj ((Within.pim_iff _ _).1 hw a (List.mem_of_getElem? hj))) fun j a hj => let ⟨h1, h2⟩ := hc j a hj; T.cell _ _ _ h1 h2
  | sl b g lo n q m cap hk h =>
    have hp := (Within.sl_iff b g lo n).1 hw
    refine .sl b g lo n q m cap (T.K b g hp) fun sz es wr hb => ?_
    obtain ⟨x, hx, hi, hs⟩ := T.live b g _ hp hb rfl
    cases x with
    | row sz0 es0 g0 wr0 =>
      obtain ⟨rfl, rfl, hle⟩ := hs
      obtain ⟨h0, h1, h2⟩ := h _ _ _ hx
      refine ⟨h0, by omega, ?_⟩
      rcases h2 with h2 | ⟨B, s, T', N, h3, h4, h5, h6⟩
      · exact .inl h2
      · exact .inr ⟨B, s, T', N, hi.trans h3, h4, T.shape _ _ h5, h6⟩
    | map _ _ _ => exact hs.elim
  | il es ex q cap B o sz vs hcap hex hmax hp hsz _ hc ih =>
    exact .il es ex q cap B o sz vs hcap hex hmax hp hsz (fun i j e a hi hj => ih i j e a hi hj ((Within.il_iff _ _).1 hw e (List.mem_of_getElem? hi) a (List.mem_of_getElem? hj))) fun i j e a hi hj => let ⟨h1, h2⟩ := hc i j e a hi hj; T.cell _ _ _ h1 h2
  | mp b g r hk h =>
    have hp := (Within.mp_iff b g).1 hw
    refine .mp b g r (T.K b g hp) fun es v hb => ?_
    obtain ⟨x, hx, hi, hs⟩ := T.live b g _ hp hb rfl
    cases x with
    | row _ _ _ _ => exact hs.elim
    | map es0 g0 v0 =>
      obtain rfl := hs
      obtain ⟨B, h1, h2⟩ := h _ _ hx
      exact ⟨B, hi.trans h1, h2⟩
  | im0 => exact .im0
  | im es B ents clock hb hl _ _ hborn hclock hs ihk ihv =>
    obtain ⟨h1, h2⟩ := T.mapo B ents clock hb hs
    exact .im es B ents clock h1 hl (fun i k v e hi he => ihk i k v e hi he ((Within.im_iff _).1 hw _ (List.mem_of_getElem? hi)).1) (fun i k v e hi he => ihv i k v e hi he ((Within.im_iff _).1 hw _ (List.mem_of_getElem? hi)).2) hborn hclock h2
  | fn f fs cs us vs h1 h2 _ _ ih1 ih2 =>
    obtain ⟨w1, w2⟩ := (Within.fn_iff f fs cs).1 hw
    exact .fn f fs cs us vs h1 h2 (fun i a v hi hv => ih1 i a v hi hv (w1 a (List.mem_of_getElem? hi))) fun i a v hi hv => ih2 i a v hi hv (w2 a (List.mem_of_getElem? hi))
  | nilf => exact .nilf
  | raw v => exact .raw v
  | undef v => exact .undef v

/-! ### A call that is handed some blocks -/
/-- The blocks that are handed over, with their generations. -/
def Cfg.lent (C : Cfg) (L : List Nat) (b g : Nat) : Prop := b ∈ L ∧ ∃ x, C.h b = some x ∧ x.gen = g

/-- What a callee sees: blocks L; cells that its caller owns besides are not to be leant on. -/
def Cfg.lend (C : Cfg) (L : List Nat) : Cfg where
  h b := if b ∈ L then C.h b else none
  ι := C.ι
  K g := ∃ b, C.lent L b g
  forb B o := B < C.w.heap.size ∧ ¬ C.safe B o ∧ ∀ b x s, b ∈ L → C.h b = some x → C.ι b = some (B, s) → False
  w := C.w

theorem lend_h {C : Cfg} {L : List Nat} {b : Nat} {x : AObj} (h : (C.lend L).h b = some x) : b ∈ L ∧ C.h b = some x := by
  simp only [Cfg.lend] at h
  split at h
  · exact ⟨by assumption, h⟩
  · cases h

theorem lend_safe {C : Cfg} {L : List Nat} {B o : Nat} (hs : C.safe B o) : (C.lend L).safe B o :=
  ⟨fun h => h.2.1 hs, fun b x s hx hi => hs.2 b x s (lend_h hx).2 hi⟩

theorem lend_tf (C : Cfg) (L : List Nat) : Tf (C.lent L) C (C.lend L) :=
  ⟨fun b _ h => ⟨b, h⟩, fun _ _ x' _ hx _ => ⟨x', (lend_h hx).2, rfl, sameKind_refl x'⟩, fun _ _ _ hc hs => ⟨hc, lend_safe hs⟩, fun _ _ _ hb hs => ⟨hb, fun o => lend_safe (hs o)⟩, fun _ _ hx => hx⟩

/-- The contents of the blocks that are handed over name no others. -/
def ObjIn (p : Nat → Nat → Prop) : AObj → Prop
  | .row _ es _ _ => ∀ e ∈ es, ∀ a ∈ e, Within p a
  | .map es _ _ => ∀ e ∈ es, Within p e.1 ∧ Within p e.2

theorem lend_valid {C : Cfg} (hv : Valid C) {L : List Nat} (hin : ∀ b ∈ L, ∀ x, C.h b = some x → ObjIn (C.lent L) x) : Valid (C.lend L) := by
  have ht := lend_tf C L
  refine ⟨fun b x hx => ?_, fun b b' x x' B s s' hx hx' => hv.inj b b' x x' B s s' (lend_h hx).2 (lend_h hx').2, fun b x B s hx => hv.old b x B s (lend_h hx).2, fun B o hf => ⟨hf.1, fun ⟨b, x, s, hx, hi⟩ => hf.2.2 b x s (lend_h hx).1 (lend_h hx).2 hi⟩⟩
  obtain ⟨hL, hx⟩ := lend_h hx
  have hobj := hv.obj b x hx
  have hi := hin b hL x hx
  cases x with
  | row sz es g wr =>
    obtain ⟨_, h2, h3⟩ := hobj
    refine ⟨⟨b, hL, _, hx, rfl⟩, h2, h3.imp id fun ⟨B, s, c, T, h4, h5, h6, h7⟩ => ⟨B, s, c, T, h4, h5, h6, fun i j e a he ha => ?_⟩⟩
    obtain ⟨v, h8, h9⟩ := h7 i j e a he ha
    exact ⟨v, h8, ht.rep h9 (hi e (List.mem_of_getElem? he) a (List.mem_of_getElem? ha))⟩
  | map es g ver =>
    obtain ⟨_, B, ents, clock, h2, h3, h4, h5, h6⟩ := hobj
    exact ⟨⟨b, hL, _, hx, rfl⟩, B, ents, clock, h2, h3, h4, fun i k v e hk he => ⟨ht.rep (h5 i k v e hk he).1 (hi _ (List.mem_of_getElem? hk)).1, ht.rep (h5 i k v e hk he).2 (hi _ (List.mem_of_getElem? hk)).2⟩, h6⟩

/-- A row under another generation. -/
def regen (g : Nat) : AObj → AObj
  | .row sz es _ wr => .row sz es g wr
  | .map es _ v => .map es g v

theorem regen_gen (g : Nat) (x : AObj) : (regen g x).gen = g := by cases x <;> rfl
theorem regen_leaves (g : Nat) (x : AObj) (s o : Nat) : (regen g x).leaves s o ↔ x.leaves s o := by cases x <;> rfl

/-- Which of the callee's blocks has this number? -/
def outB (E : List Nat) (nx c : Nat) : Option Nat := if nx ≤ c then E[c - nx]? else none

/-- The caller's view behind the call: what was handed over is as the callee left it; blocks E of the callee's are laid from nx on. -/
def Cfg.out (C C1 : Cfg) (L E : List Nat) (nx G : Nat) : Cfg where
  h c := match outB E nx c with
    | some b => (C1.h b).map (regen (G + (c - nx)))
    | none => if c ∈ L then C1.h c else C.h c
  ι c := match outB E nx c with
    | some b => C1.ι b
    | none => if c ∈ L then C1.ι c else C.ι c
  K g := C.K g ∨ (G ≤ g ∧ g < G + E.length)
  forb := C.forb
  w := C1.w

section
variable {C C1 : Cfg} {L E : List Nat} {nx G : Nat}

theorem outB_some {c b : Nat} (h : outB E nx c = some b) : nx ≤ c ∧ E[c - nx]? = some b ∧ c - nx < E.length := by
  unfold outB at h
  split at h
  · exact ⟨by assumption, h, (List.getElem?_eq_some_iff.1 h).1⟩
  · cases h

theorem outB_at {k b : Nat} (h : E[k]? = some b) : outB E nx (nx + k) = some b := by
  unfold outB
  rw [if_pos (by omega), Nat.add_sub_cancel_left]
  exact h

/-- What is known when a callee has come to its end. -/
structure Back (C C1 : Cfg) (L E : List Nat) (nx G : Nat) : Prop where
  hv : Valid C
  valid : Valid C1
  fr : Fr (C.lend L) C1
  grow : Grow (C.lend L) C1
  nodup : E.Nodup
  fresh : ∀ g, G ≤ g → g < G + E.length → ¬ C.K g
  free : ∀ b ∈ E, ∀ x, C1.h b = some x → ∃ sz es g wr, x = .row sz es g wr ∧ ∀ e ∈ es, ∀ a ∈ e, Free a
  lin : ∀ b ∈ L, ∀ x, C1.h b = some x → (∃ c, C.lent L c x.gen) ∧ ObjIn (C.lent L) x
  apart : ∀ b ∈ L, outB E nx b = none ∧ b ∉ E
  alive : ∀ b ∈ L, ∃ x, C1.h b = some x

theorem Back.owner (hb : Back C C1 L E nx G) {B : Nat} (h : C1.owned B) : (∃ b x s, b ∈ L ∧ C.h b = some x ∧ C.ι b = some (B, s)) ∨ C.w.heap.size ≤ B :=
  (hb.fr.own B h).imp (fun ⟨b, x, s, h, h'⟩ => ⟨b, x, s, (lend_h h).1, (lend_h h).2, h'⟩) id

/-- A block that the callee's numbers out is new. -/
theorem Back.live (hb : Back C C1 L E nx G) (b : Nat) (hL : b ∈ L) (x' : AObj) (hx : C1.h b = some x') : ∃ x, C.h b = some x ∧ C1.ι b = C.ι b ∧ sameKind x x' := by
  obtain ⟨x, h1, h2, h3⟩ := hb.grow.live b x' hx (hb.lin b hL x' hx).1
  exact ⟨x, (lend_h h1).2, h2, h3⟩

theorem Back.new (hb : Back C C1 L E nx G) {b B s : Nat} (hE : b ∈ E) {y : AObj} (hy : C1.h b = some y) (hi : C1.ι b = some (B, s)) : C.w.heap.size ≤ B := by
  rcases hb.owner ⟨b, y, s, hy, hi⟩ with ⟨c, x, s', hL, hx, hi'⟩ | h
  · obtain ⟨x1, hx1⟩ := hb.alive c hL
    obtain ⟨_, _, hι, _⟩ := hb.live c hL x1 hx1
    have := hb.valid.inj b c y x1 B s s' hy hx1 hi (hι.trans hi')
    subst this
    exact absurd hE (hb.apart b hL).2
  · exact h

theorem out_obj {c : Nat} {x : AObj} (h : (C.out C1 L E nx G).h c = some x) :
    (∃ b y, outB E nx c = some b ∧ b ∈ E ∧ C1.h b = some y ∧ x = regen (G + (c - nx)) y ∧ (C.out C1 L E nx G).ι c = C1.ι b) ∨
    (outB E nx c = none ∧ c ∈ L ∧ C1.h c = some x ∧ (C.out C1 L E nx G).ι c = C1.ι c) ∨ (outB E nx c = none ∧ c ∉ L ∧ C.h c = some x ∧ (C.out C1 L E nx G).ι c = C.ι c) := by
  simp only [Cfg.out] at h ⊢
  cases ho : outB E nx c with
  | none =>
    rw [ho] at h
    simp only at h
    by_cases hL : c ∈ L
    · rw [if_pos hL] at h
      exact .inr (.inl ⟨rfl, hL, h, by simp [hL]⟩)
    · rw [if_neg hL] at h
      exact .inr (.inr ⟨rfl, hL, h, by simp [hL]⟩)
  | some b =>
    rw [ho] at h
    simp only [Option.map_eq_some_iff] at h
    obtain ⟨y, hy, rfl⟩ := h
    exact .inl ⟨b, y, rfl, List.mem_of_getElem? (outB_some ho).2.1, hy, rfl, rfl⟩

theorem Back.safe (hb : Back C C1 L E nx G) {B o : Nat} (hs : C1.safe B o) : (C.out C1 L E nx G).safe B o := by
  have hforb : C1.forb = (C.lend L).forb := hb.fr.forb
  have hn : B < C.w.heap.size → C.safe B o ∨ ∃ b x s, b ∈ L ∧ C.h b = some x ∧ C.ι b = some (B, s) := fun hlt => Classical.byContradiction fun h => by
    simp only [not_or, not_exists, not_and] at h
    refine hs.1 ?_
    rw [hforb]
    exact ⟨hlt, h.1, fun b x s h1 h2 h3 => h.2 b x s h1 h2 h3⟩
  refine ⟨fun hf => ?_, fun c x s hx hi => ?_⟩
  · have hf' : C.forb B o := hf
    obtain ⟨h1, h2⟩ := hb.hv.forb B o hf'
    rcases hn h1 with h3 | ⟨b, x, s, h3, h4, h5⟩
    · exact h3.1 hf'
    · exact h2 ⟨b, x, s, h4, h5⟩
  · rcases out_obj hx with ⟨b, y, h1, h2, h3, rfl, h4⟩ | ⟨h1, h2, h3, h4⟩ | ⟨h1, h2, h3, h4⟩
    · rw [h4] at hi
      rw [regen_leaves]
      exact hs.2 b y s h3 hi
    · rw [h4] at hi
      exact hs.2 c x s h3 hi
    · rw [h4] at hi
      rcases hn (hb.hv.old c x B s h3 hi) with h5 | ⟨b, y, s', h5, h6, h7⟩
      · exact h5.2 c x s h3 hi
      · have := hb.hv.inj b c y x B s' s h6 h3 h7 hi
        subst this
        exact absurd h5 h2

theorem Back.tf (hb : Back C C1 L E nx G) : Tf (C.lent L) C1 (C.out C1 L E nx G) := by
  refine ⟨fun b g h => ?_, fun b g x' h hx hg => ?_, fun _ _ _ hc hs => ⟨hc, hb.safe hs⟩, fun _ _ _ h hs => ⟨h, fun o => hb.safe (hs o)⟩, fun _ _ h => h⟩
  · obtain ⟨h1, x, h2, rfl⟩ := h
    have := hb.hv.obj b x h2
    exact .inl (by cases x <;> exact this.1)
  · rcases out_obj hx with ⟨b', y, h1, _⟩ | ⟨h1, h2, h3, h4⟩ | ⟨h1, h2, _⟩
    · rw [(hb.apart b h.1).1] at h1; cases h1
    · exact ⟨x', h3, h4, sameKind_refl x'⟩
    · exact absurd h.1 h2

theorem Back.growC (hb : Back C C1 L E nx G) : Grow C (C.out C1 L E nx G) := by
  refine ⟨fun g h => .inl h, fun c x' hx hk => ?_, fun B o v hc hs => ?_, fun B ents clock h hs => ?_, fun B x hx => hb.grow.shape B x hx⟩
  · rcases out_obj hx with ⟨b, y, h1, h2, h3, rfl, h4⟩ | ⟨h1, h2, h3, h4⟩ | ⟨h1, h2, h3, h4⟩
    · rw [regen_gen] at hk
      obtain ⟨_, _, h5⟩ := outB_some h1
      exact absurd hk (hb.fresh _ (by omega) (by omega))
    · obtain ⟨x, h5, h6, h7⟩ := hb.live c h2 x' h3
      exact ⟨x, h5, h4.trans h6, h7⟩
    · exact ⟨x', h3, h4, sameKind_refl x'⟩
  · obtain ⟨h1, h2⟩ := hb.grow.cell B o v hc (lend_safe hs)
    exact ⟨h1, hb.safe h2⟩
  · obtain ⟨h1, h2⟩ := hb.grow.mapo B ents clock h fun o => lend_safe (hs o)
    exact ⟨h1, fun o => hb.safe (h2 o)⟩

theorem Back.frC (hb : Back C C1 L E nx G) : Fr C (C.out C1 L E nx G) := by
  refine ⟨hb.fr.size, fun B hB ho => hb.fr.same B hB fun ⟨b, x, s, h1, h2⟩ => ho ⟨b, x, s, (lend_h h1).2, h2⟩, fun B ⟨c, x, s, hx, hi⟩ => ?_, hb.fr.os, hb.fr.tape, hb.fr.output, rfl⟩
  have own : ∀ b y s, C1.h b = some y → C1.ι b = some (B, s) → C.owned B ∨ C.w.heap.size ≤ B := fun b y s h1 h2 => (hb.owner ⟨b, y, s, h1, h2⟩).imp (fun ⟨b, x, s, _, h, h'⟩ => ⟨b, x, s, h, h'⟩) id
  rcases out_obj hx with ⟨b, y, h1, h2, h3, rfl, h4⟩ | ⟨h1, h2, h3, h4⟩ | ⟨h1, h2, h3, h4⟩
  · rw [h4] at hi; exact own b y s h3 hi
  · rw [h4] at hi; exact own c x s h3 hi
  · rw [h4] at hi; exact .inl ⟨c, x, s, h3, hi⟩

theorem Back.validC (hb : Back C C1 L E nx G) : Valid (C.out C1 L E nx G) := by
  have hg := hb.growC
  have ht := hb.tf
  refine ⟨fun c x hx => ?_, fun c c' x x' B s s' hx hx' hi hi' => ?_, fun c x B s hx hi => ?_, fun B o hf => ?_⟩
  · rcases out_obj hx with ⟨b, y, h1, h2, h3, rfl, h4⟩ | ⟨h1, h2, h3, h4⟩ | ⟨h1, h2, h3, h4⟩
    · obtain ⟨h5, h6, h7⟩ := outB_some h1
      obtain ⟨sz, es, g, wr, rfl, hfree⟩ := hb.free b h2 y h3
      obtain ⟨_, hsz, hcase⟩ := hb.valid.obj b _ h3
      refine ⟨.inr ⟨by omega, by omega⟩, hsz, ?_⟩
      rw [h4]
      refine hcase.imp id fun ⟨B, s, cc, T, hi, hat, hle, hc⟩ => ⟨B, s, cc, T, hi, hat, hle, fun i j e a hi' hj => ?_⟩
      obtain ⟨v, hv1, hv2⟩ := hc i j e a hi' hj
      exact ⟨v, hv1, ht.rep hv2 ((hfree e (List.mem_of_getElem? hi') a (List.mem_of_getElem? hj)).mono fun _ _ h => h.elim)⟩
    · have hobj := hb.valid.obj c x h3
      obtain ⟨⟨c0, hc0⟩, hin⟩ := hb.lin c h2 x h3
      cases x with
      | row sz es g wr =>
        obtain ⟨_, k2, k3⟩ := hobj
        refine ⟨ht.K _ _ hc0, k2, ?_⟩
        rw [h4]
        exact k3.imp id fun ⟨B, s, cc, T, hi, hat, hle, hc⟩ => ⟨B, s, cc, T, hi, hat, hle, fun i j e a hi' hj => let ⟨v, hv1, hv2⟩ := hc i j e a hi' hj; ⟨v, hv1, ht.rep hv2 (hin e (List.mem_of_getElem? hi') a (List.mem_of_getElem? hj))⟩⟩
      | map es g ver =>
        obtain ⟨_, B, ents, clock, hi, hat, hl, hkv, hrest⟩ := hobj
        exact ⟨ht.K _ _ hc0, B, ents, clock, h4.trans hi, hat, hl, fun i k v e hi' he => let ⟨a1, a2⟩ := hkv i k v e hi' he; ⟨ht.rep a1 (hin _ (List.mem_of_getElem? hi')).1, ht.rep a2 (hin _ (List.mem_of_getElem? hi')).2⟩, hrest⟩
    · have hobj := hb.hv.obj c x h3
      have hsame : ∀ B s, C.ι c = some (B, s) → C1.w.heap[B]? = C.w.heap[B]? := fun B s hi => hb.fr.same B (hb.hv.old c x B s h3 hi) fun ⟨b, y, s', h5, h6⟩ => by
        have := hb.hv.inj b c y x B s' s (lend_h h5).2 h3 h6 hi
        subst this
        exact h2 (lend_h h5).1
      cases x with
      | row sz es g wr =>
        obtain ⟨k1, k2, k3⟩ := hobj
        refine ⟨.inl k1, k2, ?_⟩
        rw [h4]
        exact k3.imp id fun ⟨B, s, cc, T, hi, hat, hle, hc⟩ => ⟨B, s, cc, T, hi, (hsame B s hi).trans hat, hle, fun i j e a hi' hj => let ⟨v, hv1, hv2⟩ := hc i j e a hi' hj; ⟨v, hv1, hg.rep hv2⟩⟩
      | map es g ver =>
        obtain ⟨k1, B, ents, clock, hi, hat, hl, hkv, hrest⟩ := hobj
        exact ⟨.inl k1, B, ents, clock, h4.trans hi, (hsame B 0 hi).trans hat, hl, fun i k v e hi' he => let ⟨a1, a2⟩ := hkv i k v e hi' he; ⟨hg.rep a1, hg.rep a2⟩, hrest⟩
  · -- no block twice
    have foreign : ∀ b y B s, (b ∈ L ∨ b ∈ E) → C1.h b = some y → C1.ι b = some (B, s) → ∀ c' x' s', c' ∉ L → C.h c' = some x' → C.ι c' = some (B, s') → False := by
      intro b y B s hbE hy hi c' x' s' hnL hx' hi'
      have hlt := hb.hv.old c' x' B s' hx' hi'
      rcases hb.owner ⟨b, y, s, hy, hi⟩ with ⟨b0, x0, s0, h5, h6, h7⟩ | h
      · have := hb.hv.inj b0 c' x0 x' B s0 s' h6 hx' h7 hi'
        subst this
        exact hnL h5
      · omega
    rcases out_obj hx with ⟨b, y, h1, h2, h3, rfl, h4⟩ | ⟨h1, h2, h3, h4⟩ | ⟨h1, h2, h3, h4⟩ <;> rcases out_obj hx' with ⟨b', y', h1', h2', h3', rfl, h4'⟩ | ⟨h1', h2', h3', h4'⟩ | ⟨h1', h2', h3', h4'⟩ <;> rw [h4] at hi <;> rw [h4'] at hi'
    · have := hb.valid.inj b b' y y' B s s' h3 h3' hi hi'
      subst this
      obtain ⟨a1, a2, a3⟩ := outB_some h1
      obtain ⟨b1, b2, b3⟩ := outB_some h1'
      have := (List.getElem?_inj a3 hb.nodup).1 (a2.trans b2.symm)
      omega
    · have := hb.valid.inj b c' y x' B s s' h3 h3' hi hi'
      subst this
      exact absurd h2 (hb.apart b h2').2
    · exact (foreign b y B s (.inr h2) h3 hi c' x' s' h2' h3' hi').elim
    · have := hb.valid.inj c b' x y' B s s' h3 h3' hi hi'
      subst this
      exact absurd h2' (hb.apart c h2).2
    · exact hb.valid.inj c c' x x' B s s' h3 h3' hi hi'
    · exact (foreign c x B s (.inl h2) h3 hi c' x' s' h2' h3' hi').elim
    · exact (foreign b' y' B s' (.inr h2') h3' hi' c x s h2 h3 hi).elim
    · exact (foreign c' x' B s' (.inl h2') h3' hi' c x s h2 h3 hi).elim
    · exact hb.hv.inj c c' x x' B s s' h3 h3' hi hi'
  · rcases out_obj hx with ⟨b, y, h1, h2, h3, rfl, h4⟩ | ⟨h1, h2, h3, h4⟩ | ⟨h1, h2, h3, h4⟩ <;> rw [h4] at hi
    · exact hb.valid.old b y B s h3 hi
    · exact hb.valid.old c x B s h3 hi
    · exact Nat.lt_of_lt_of_le (hb.hv.old c x B s h3 hi) hb.fr.size
  · have hf' : C.forb B o := hf
    obtain ⟨h1, h2⟩ := hb.hv.forb B o hf'
    refine ⟨Nat.lt_of_lt_of_le h1 hb.fr.size, fun ho => ?_⟩
    rcases hb.frC.own B ho with h3 | h3
    · exact h2 h3
    · omega

end

end Go.AI

namespace Go.AI
variable {P : Program} {N : Nat}

abbrev lentH (h : Nat → Option AObj) (L : List Nat) (b g : Nat) : Prop := b ∈ L ∧ ∃ x, h b = some x ∧ x.gen = g

def resA (P : Program) (s : St) : ResultVar → Option AVal
  | .tmp t => some (tget s.tmps t)
  | .cell a t => match tget s.tmps a with
    | .ptr b g i off => ((loadR P 0 0 t (.ptr b g i off)).run (hget s.heap)).map (·.v)
    | _ => none

def resL (P : Program) (s : St) : List ResultVar → Option (List AVal)
  | [] => some []
  | r :: l => match resA P s r, resL P s l with
    | some v, some vs => some (v :: vs)
    | _, _ => none

def oneA : List AVal → AVal
  | [v] => v
  | vs => .tup vs

def oneV (vs : Array Value) : Value := if h : vs.size = 1 then vs[0] else .tuple vs

def resV (tmps : Array Value) : ResultVar → Sem Value
  | .tmp t => pure (tmps.getD t undef)
  | .cell a t => do loadVar t (← asAddr (tmps.getD a undef))

theorem loadPtr {C : Cfg} (hv : Valid C) {nx G : Nat} {t : TypeId} {b g i off : Nat} {va : Value} (ha : VRep C (.ptr b g i off) va) {d : Delta} (h : (loadR P nx G t (.ptr b g i off)).run C.h = some d) :
    ∃ p u, va = .pointer (some p) ∧ (loadVar t p).run P C.w = .ok u C.w ∧ VRep C d.v u := by
  unfold loadR at h
  replace h := rd_opt h; obtain ⟨ti, hti, h⟩ := h
  replace h := rd_row h; obtain ⟨sz, es, wr, hb, h⟩ := h
  replace h := rd_opt h; obtain ⟨cs, hcs, h⟩ := h
  replace h := rd_opt h; obtain ⟨x, hx, h⟩ := h
  have hd := rd_val h
  obtain ⟨B, s, hi, rfl⟩ := ptr_live ha hb
  obtain ⟨c, T, hat, hle, hsz, hcell⟩ := row_cells hv hb hi
  have hf : ∀ j y, cs[j]? = some y → C.w.cell? ⟨B, s + i * sz + j, none⟩ = some (c.getD (s + (i * sz + j)) undef) ∧ VRep C y (c.getD (s + (i * sz + j)) undef) := by
    intro j y hj
    obtain ⟨v, h1, h2⟩ := hcell i j cs y hcs hj
    rw [cell_of_row _ _ _ _ _ _ hat, Nat.add_assoc]
    simp [Array.getD_eq_getD_getElem?, h1, h2]
  obtain ⟨u, hu, hr⟩ := loadVar_run (w := C.w) hti B (s + i * sz) off cs _ (fun j y hj => (hf j y hj).1) (fun j y hj => (hf j y hj).2) hx
  subst hd
  exact ⟨_, u, rfl, hu, hr⟩

theorem res_one {C : Cfg} {s : St} {a : Act} (hr : RelS C N s a) {r : ResultVar} {v : AVal} (h : resA P s r = some v) : ∃ cv, VRep C v cv ∧ (resV a.tmps r).run P C.w = .ok cv C.w := by
  cases r with
  | tmp t =>
    simp only [resA, Option.some.injEq] at h
    subst h
    exact ⟨_, hr.tmps t, rfl⟩
  | cell x t =>
    simp only [resA] at h
    split at h
    · rename_i b g i off hx
      simp only [Option.map_eq_some_iff] at h
      obtain ⟨d, hd, rfl⟩ := h
      have hrep := hr.tmps x
      rw [hx] at hrep
      rw [← hr.h] at hd
      obtain ⟨p, u, h1, h2, h3⟩ := loadPtr hr.valid hrep hd
      refine ⟨u, h3, ?_⟩
      simp only [resV, h1, asAddr, Sem.run_bind, Sem.run_pure, Result.andThen_ok]
      exact h2
    · cases h

theorem results_run {fn : Func} {C : Cfg} {s : St} {a : Act} (hr : RelS C N s a) {rs : List AVal} (h : resL P s fn.results.toList = some rs) :
    ∃ vs : Array Value, VReps C rs vs.toList ∧ (results fn a.tmps).run P C.w = .ok (oneV vs) C.w := by
  have key : ∀ (l : List ResultVar) (rs : List AVal), resL P s l = some rs → ∃ vs : List Value, VReps C rs vs ∧ (l.mapM (resV a.tmps)).run P C.w = .ok vs C.w := by
    intro l
    induction l with
    | nil =>
      intro rs h
      simp only [resL, Option.some.injEq] at h
      subst h
      exact ⟨[], ⟨rfl, by simp⟩, by simp⟩
    | cons r l ih =>
      intro rs h
      simp only [resL] at h
      split at h
      · rename_i v vs hv hvs
        cases h
        obtain ⟨cvs, h1, h2⟩ := ih vs hvs
        obtain ⟨cv, h3, h4⟩ := res_one hr hv
        refine ⟨cv :: cvs, ⟨by simp [h1.1], fun i x y hx hy => ?_⟩, ?_⟩
        · cases i with
          | zero =>
            simp only [List.getElem?_cons_zero, Option.some.injEq] at hx hy
            subst hx; subst hy; exact h3
          | succ i => exact h1.2 i x y hx hy
        · rw [List.mapM_cons]
          simp only [Sem.run_bind, Sem.run_pure]
          rw [h4]
          simp only [Result.andThen_ok]
          rw [h2]
          simp only [Result.andThen_ok]
      · cases h
  obtain ⟨vs, h1, h2⟩ := key _ rs h
  refine ⟨vs.toArray, by simpa using h1, ?_⟩
  show Sem.run P (do let vs ← fn.results.mapM (resV a.tmps); pure (oneV vs)) C.w = _
  simp only [Sem.run_bind, Array.mapM_eq_mapM_toList, Sem.run_map, Sem.run_pure]
  rw [h2]
  rfl

/-! ### What goes back -/
/-- A captured variable that nobody writes any more. -/
def fzP {α : Type} (v : AVal) (k : AVal → List Upd → Rd α) : Rd α :=
  match v with
  | .ptr b g i off => row? b g fun sz es _ => ofOpt es[i]? fun cs => k (.pim cs off) [(b, some (.row sz es g false))]
  | v => k v []

theorem fzP_sound {α : Type} {C : Cfg} : FzF C (fzP (α := α)) := by
  intro v cv k r hr h
  have keep : (k v []).run C.h = some r → ∃ v' u, (∀ e ∈ u, FzOk C e) ∧ FzTo C u v' cv ∧ (k v' u).run C.h = some r :=
    fun hk => ⟨_, [], by simp, fun C1 hf _ => hf.grow.rep hr, hk⟩
  cases v with
  | ptr b g i off =>
    simp only [fzP] at h
    replace h := rd_row h; obtain ⟨sz, es, wr, hb, h⟩ := h
    replace h := rd_opt h; obtain ⟨cs, hcs, h⟩ := h
    refine ⟨_, _, fun e he => ?_, fun C1 hf hu => ?_, h⟩
    · simp only [List.mem_singleton] at he
      subst he
      exact .inl ⟨sz, es, g, wr, rfl, hb⟩
    · have hb1 := hu _ (List.mem_singleton.2 rfl)
      simp only at hb1
      obtain ⟨B, s, hi, rfl⟩ := ptr_live (hf.grow.rep hr) hb1
      obtain ⟨c, T, hat, hle, hsz, hcell⟩ := row_cells hf.valid hb1 hi
      have hil : i < es.length := (List.getElem?_eq_some_iff.1 hcs).1
      have hcsz : cs.length = sz := hsz cs (List.mem_of_getElem? hcs)
      refine .pim cs off B (s + i * sz) (fun j => c.getD (s + (i * sz + j)) undef) (fun j a hj => ?_) fun j a hj => ⟨?_, fun hfb => (hf.valid.forb B _ hfb).2 ⟨b, _, s, hb1, hi⟩, fun b' x s' hx hi' => ?_⟩
      · obtain ⟨v, h1, h2⟩ := hcell i j cs a hcs hj
        simp [Array.getD_eq_getD_getElem?, h1, h2]
      · obtain ⟨v, h1, _⟩ := hcell i j cs a hcs hj
        rw [cell_of_row _ _ _ _ _ _ hat, Nat.add_assoc]
        simp [Array.getD_eq_getD_getElem?, h1]
      · have := hf.valid.inj b' b x _ B s' s hx hb1 hi' hi
        subst this
        rw [hb1] at hx
        cases hx
        rw [hi] at hi'
        cases hi'
        have hjl : j < sz := by rw [← hcsz]; exact (List.getElem?_eq_some_iff.1 hj).1
        have hm : i * sz + sz ≤ es.length * sz := by rw [← Nat.succ_mul]; exact Nat.mul_le_mul_right _ hil
        simp only [AObj.leaves]
        simp
        omega
  | _ => exact keep h

/-- A result that is a slice of a row without names stays owned; all else is frozen, what a function value has captured too. -/
def expF {α : Type} (v : AVal) (k : AVal → List Upd → Rd α) : Rd α :=
  match v with
  | .sl b g _ _ => row? b g fun _ es _ => if flatEs es then k v [] else fz 4 v k
  | .fn f [] cs => fzL fzP cs fun cs' u => k (.fn f [] cs') u
  | .agg cs => match cs.getLast? with
      | some (.sl b g _ _) => row? b g fun _ es _ => if flatEs es then k (.agg cs) [] else fz 4 (.agg cs) k
      | _ => fz 4 (.agg cs) k
  | v => fz 4 v k

theorem expF_sound {α : Type} {C : Cfg} (hv : Valid C) : FzF C (expF (α := α)) := by
  intro v cv k r hr h
  have keep : (k v []).run C.h = some r → ∃ v' u, (∀ e ∈ u, FzOk C e) ∧ FzTo C u v' cv ∧ (k v' u).run C.h = some r :=
    fun hk => ⟨_, [], by simp, fun C1 hf _ => hf.grow.rep hr, hk⟩
  unfold expF at h
  split at h
  · have h0 := h
    replace h := rd_row h; obtain ⟨sz, es, wr, hb, h⟩ := h
    split at h
    · exact keep h
    · exact fz_sound hv 4 _ cv k r hr h
  · rename_i f cs
    cases hr with
    | fn _ _ _ us vs h1 h2 hfr hcr =>
      obtain ⟨cs', u, k1, k2, k3, k4⟩ := fzL_sound fzP_sound cs vs.toList _ r (by simpa using h2) (fun i a v ha hvv => hcr i a v ha (by rw [← Array.getElem?_toList]; exact hvv)) h
      refine ⟨.fn f [] cs', u, k1, fun C1 hf hu => .fn f [] cs' us vs h1 (by simpa using k2) (by simp) fun i a v ha hvv => ?_, k4⟩
      exact k3 i a v ha (by rw [Array.getElem?_toList]; exact hvv) C1 hf hu
  · split at h
    · have h0 := h
      replace h := rd_row h; obtain ⟨sz, es, wr, hb, h⟩ := h
      split at h
      · exact keep h
      · exact fz_sound hv 4 _ cv k r hr h
    · exact fz_sound hv 4 _ cv k r hr h
  · exact fz_sound hv 4 _ cv k r hr h

inductive Exp (p : Nat → Nat → Prop) (h : Nat → Option AObj) : List AVal → Nat → Nat → List AVal → List Upd → List Nat → Prop
  | nil (nx G : Nat) : Exp p h [] nx G [] [] []
  | keep {v : AVal} {vs vs' : List AVal} {nx G : Nat} {u : List Upd} {E : List Nat} (hv : Within p v) (h' : Exp p h vs nx G vs' u E) : Exp p h (v :: vs) nx G (v :: vs') u E
  | row {b g lo n sz : Nat} {es : List (List AVal)} {wr : Bool} {vs vs' : List AVal} {nx G : Nat} {u : List Upd} {E : List Nat} (hb : h b = some (.row sz es g wr)) (hf : ∀ e ∈ es, ∀ a ∈ e, Free a) (h' : Exp p h vs (nx + 1) (G + 1) vs' u E) :
      Exp p h (.sl b g lo n :: vs) nx G (.sl nx G lo n :: vs') ((nx, some (.row sz es G wr)) :: u) (b :: E)
  | rowA {cs : List AVal} {b g lo n sz : Nat} {es : List (List AVal)} {wr : Bool} {vs vs' : List AVal} {nx G : Nat} {u : List Upd} {E : List Nat} (hcs : ∀ a ∈ cs, Within p a) (hb : h b = some (.row sz es g wr)) (hf : ∀ e ∈ es, ∀ a ∈ e, Free a) (h' : Exp p h vs (nx + 1) (G + 1) vs' u E) :
      Exp p h (.agg (cs ++ [.sl b g lo n]) :: vs) nx G (.agg (cs ++ [.sl nx G lo n]) :: vs') ((nx, some (.row sz es G wr)) :: u) (b :: E)

theorem Exp.upd {p : Nat → Nat → Prop} {h : Nat → Option AObj} {vs vs' : List AVal} {nx G : Nat} {u : List Upd} {E : List Nat} (H : Exp p h vs nx G vs' u E) :
    ∀ (hp : Nat → Option AObj) (c : Nat), hupd hp u c = match outB E nx c with | some b => (h b).map (regen (G + (c - nx))) | none => hp c := by
  induction H with
  | nil nx G => intro hp c; simp [hupd, outB]
  | keep _ _ ih => exact ih
  | @row b g lo n sz es wr vs vs' nx G u E hb hf h' ih =>
    intro hp c
    simp only [hupd]
    rw [ih]
    rcases Nat.lt_trichotomy c nx with hc | hc | hc
    · have h1 : ¬ nx + 1 ≤ c := by omega
      have h2 : ¬ nx ≤ c := by omega
      simp only [outB, h1, h2, if_false]
      exact setAt_ne _ _ (by omega)
    · subst hc
      have h1 : ¬ c + 1 ≤ c := by omega
      simp [outB, h1, setAt, hb, regen]
    · have h1 : nx + 1 ≤ c := by omega
      have h2 : nx ≤ c := by omega
      have h3 : c - nx = (c - (nx + 1)) + 1 := by omega
      simp only [outB, h1, h2, if_true, h3, List.getElem?_cons_succ]
      cases E[c - (nx + 1)]? with
      | none => exact setAt_ne _ _ (by omega)
      | some b' =>
        simp only
        congr 2
        omega
  | @rowA cs b g lo n sz es wr vs vs' nx G u E hcs hb hf h' ih =>
    intro hp c
    simp only [hupd]
    rw [ih]
    rcases Nat.lt_trichotomy c nx with hc | hc | hc
    · have h1 : ¬ nx + 1 ≤ c := by omega
      have h2 : ¬ nx ≤ c := by omega
      simp only [outB, h1, h2, if_false]
      exact setAt_ne _ _ (by omega)
    · subst hc
      have h1 : ¬ c + 1 ≤ c := by omega
      simp [outB, h1, setAt, hb, regen]
    · have h1 : nx + 1 ≤ c := by omega
      have h2 : nx ≤ c := by omega
      have h3 : c - nx = (c - (nx + 1)) + 1 := by omega
      simp only [outB, h1, h2, if_true, h3, List.getElem?_cons_succ]
      cases E[c - (nx + 1)]? with
      | none => exact setAt_ne _ _ (by omega)
      | some b' =>
        simp only
        congr 2
        omega

theorem Exp.free {p : Nat → Nat → Prop} {h : Nat → Option AObj} {vs vs' : List AVal} {nx G : Nat} {u : List Upd} {E : List Nat} (H : Exp p h vs nx G vs' u E) :
    ∀ b ∈ E, ∃ sz es g wr, h b = some (.row sz es g wr) ∧ ∀ e ∈ es, ∀ a ∈ e, Free a := by
  induction H with
  | nil => simp
  | keep _ _ ih => exact ih
  | row hb hf h' ih =>
    intro b hbE
    rcases List.mem_cons.1 hbE with rfl | hbE
    · exact ⟨_, _, _, _, hb, hf⟩
    · exact ih b hbE
  | rowA _ hb hf h' ih =>
    intro b hbE
    rcases List.mem_cons.1 hbE with rfl | hbE
    · exact ⟨_, _, _, _, hb, hf⟩
    · exact ih b hbE

theorem sl_carry {p : Nat → Nat → Prop} {C1 C2 : Cfg} (ht : Tf p C1 C2) {b g lo n sz nx G : Nat} {es : List (List AVal)} {wr : Bool} {v : Value} (hr : VRep C1 (.sl b g lo n) v) (hb1 : C1.h b = some (.row sz es g wr))
    (k1 : C2.h nx = (C1.h b).map (regen G)) (k2 : C2.ι nx = C1.ι b) (k3 : C2.K G) : VRep C2 (.sl nx G lo n) v := by
  obtain ⟨p0, cap, rfl, hle, _, hcase⟩ := sl_live hr hb1
  refine .sl nx G lo n p0 n cap k3 fun sz1 es1 wr1 hb2 => ?_
  rw [k1, hb1] at hb2
  cases hb2
  exact ⟨rfl, hle, hcase.imp id fun ⟨B, s, T, M, a1, a2, a3, a4⟩ => ⟨B, s, T, M, k2.trans a1, a2, ht.shape _ _ a3, a4⟩⟩

theorem Exp.reps {p : Nat → Nat → Prop} {h : Nat → Option AObj} {vs vs' : List AVal} {nx G : Nat} {u : List Upd} {E : List Nat} (H : Exp p h vs nx G vs' u E) {C1 C2 : Cfg} (ht : Tf p C1 C2) (hh : C1.h = h)
    (hE : ∀ k b, E[k]? = some b → C2.h (nx + k) = (h b).map (regen (G + k)) ∧ C2.ι (nx + k) = C1.ι b ∧ C2.K (G + k)) : ∀ cvs, VReps C1 vs cvs → VReps C2 vs' cvs := by
  induction H with
  | nil => exact fun cvs hc => ⟨hc.1, by simp⟩
  | keep hv h' ih =>
    intro cvs hc
    cases cvs with
    | nil => exact absurd hc.1 (by simp)
    | cons cv cvs =>
      obtain ⟨h1, h2⟩ := ih hE cvs ⟨by simpa using hc.1, fun i => hc.2 (i + 1)⟩
      refine ⟨by simp [h1], fun i a v ha hv' => ?_⟩
      cases i with
      | zero =>
        simp only [List.getElem?_cons_zero, Option.some.injEq] at ha hv'
        subst ha; subst hv'
        exact ht.rep (hc.2 0 _ _ rfl rfl) hv
      | succ i => exact h2 i a v ha hv'
  | @row b g lo n sz es wr vs vs' nx G u E hb hf h' ih =>
    intro cvs hc
    cases cvs with
    | nil => exact absurd hc.1 (by simp)
    | cons cv cvs =>
      obtain ⟨h1, h2⟩ := ih (fun k b hk => by
        have := hE (k + 1) b hk
        have e1 : nx + (k + 1) = nx + 1 + k := by omega
        have e2 : G + (k + 1) = G + 1 + k := by omega
        rwa [e1, e2] at this) cvs ⟨by simpa using hc.1, fun i => hc.2 (i + 1)⟩
      refine ⟨by simp [h1], fun i a v ha hv' => ?_⟩
      cases i with
      | zero =>
        simp only [List.getElem?_cons_zero, Option.some.injEq] at ha hv'
        subst ha; subst hv'
        obtain ⟨k1, k2, k3⟩ := hE 0 b rfl
        have hb1 : C1.h b = some (.row sz es g wr) := by rw [hh]; exact hb
        simp only [Nat.add_zero] at k1 k2 k3
        exact sl_carry ht (hc.2 0 _ _ rfl rfl) hb1 (by rw [hh]; exact k1) k2 k3
      | succ i => exact h2 i a v ha hv'
  | @rowA cs b g lo n sz es wr vs vs' nx G u E hcs hb hf h' ih =>
    intro cvs hc
    cases cvs with
    | nil => exact absurd hc.1 (by simp)
    | cons cv cvs =>
      obtain ⟨h1, h2⟩ := ih (fun k b hk => by
        have := hE (k + 1) b hk
        have e1 : nx + (k + 1) = nx + 1 + k := by omega
        have e2 : G + (k + 1) = G + 1 + k := by omega
        rwa [e1, e2] at this) cvs ⟨by simpa using hc.1, fun i => hc.2 (i + 1)⟩
      refine ⟨by simp [h1], fun i a v ha hv' => ?_⟩
      cases i with
      | zero =>
        simp only [List.getElem?_cons_zero, Option.some.injEq] at ha hv'
        subst ha; subst hv'
        obtain ⟨k1, k2, k3⟩ := hE 0 b rfl
        have hb1 : C1.h b = some (.row sz es g wr) := by rw [hh]; exact hb
        simp only [Nat.add_zero] at k1 k2 k3
        have h0 := hc.2 0 _ _ rfl rfl
        cases h0 with
        | agg _ ws hl hr =>
          refine .agg _ ws (by simpa using hl) fun j x y hx hy => ?_
          by_cases hj : j < cs.length
          · have hx' : cs[j]? = some x := by rw [List.getElem?_append_left hj] at hx; exact hx
            exact ht.rep (hr j x y (by rw [List.getElem?_append_left hj]; exact hx') hy) (hcs x (List.mem_of_getElem? hx'))
          · have hjl : j = cs.length := by
              have := (List.getElem?_eq_some_iff.1 hx).1
              simp at this
              omega
            subst hjl
            simp only [List.getElem?_concat_length, Option.some.injEq] at hx
            subst hx
            exact sl_carry ht (hr _ _ y (by simp) hy) hb1 (by rw [hh]; exact k1) k2 k3
      | succ i => exact h2 i a v ha hv'

/-- How a body may end. -/
structure Ends (P : Program) (fn : Func) (hp : Nat → Option AObj) (L : List Nat) (s : St) (nx G : Nat) (d : Delta) : Prop where
  ex : ∃ rs vs1 u1 vs2 u2 E, resL P s fn.results.toList = some rs ∧ (fzL expF rs fun vs u => .ret (vs, u)).run (hget s.heap) = some (vs1, u1) ∧
    Exp (lentH hp L) (hupd (hget s.heap) u1) vs1 nx G vs2 u2 E ∧ E.Nodup ∧
    (∀ b ∈ L, outB E nx b = none ∧ b ∉ E ∧ ∃ x, hupd (hget s.heap) u1 b = some x ∧ (∃ c, lentH hp L c x.gen) ∧ ObjIn (lentH hp L) x) ∧
    d.v = oneA vs2 ∧ d.nx = nx + E.length ∧ d.G = G + E.length ∧ hupd hp d.upd = hupd (fun c => if c ∈ L then hupd (hget s.heap) u1 c else hp c) u2

def argT : Nat → List AVal → List (Nat × AVal)
  | _, [] => []
  | k, a :: as => (k, a) :: argT (k + 1) as

theorem argT_get : ∀ (as : List AVal) (k t : Nat), tget (argT k as) t = if k ≤ t then as.getD (t - k) .undef else .undef
  | [], k, t => by simp [argT, tget]
  | a :: as, k, t => by
    simp only [argT, tget]
    by_cases h : k = t
    · subst h; simp
    · rw [if_neg h, argT_get as (k + 1) t]
      by_cases h1 : k ≤ t
      · have h2 : k + 1 ≤ t := by omega
        have h3 : t - k = (t - (k + 1)) + 1 := by omega
        rw [if_pos h1, if_pos h2, h3]
        simp
      · have h2 : ¬ k + 1 ≤ t := by omega
        rw [if_neg h1, if_neg h2]

theorem rep_one {C : Cfg} {vs : List AVal} {cvs : Array Value} (h : VReps C vs cvs.toList) : VRep C (oneA vs) (oneV cvs) := by
  have hl : vs.length = cvs.size := by simpa using h.1
  unfold oneV
  split
  · rename_i h1
    match vs, hl with
    | [], hl => simp at hl; omega
    | [v], _ => exact h.2 0 v _ rfl (by rw [Array.getElem?_toList, Array.getElem?_eq_getElem])
    | _ :: _ :: _, hl => simp at hl; omega
  · rename_i h1
    have ht : VRep C (.tup vs) (.tuple cvs) := .tup vs cvs hl fun i a v ha hv => h.2 i a v ha (by rw [Array.getElem?_toList]; exact hv)
    match vs, hl with
    | [], _ => exact ht
    | [_], hl => exact absurd hl.symm (by simpa using h1)
    | _ :: _ :: _, _ => exact ht

/-! ### Marks at the end -/
/-- Objects that no value looks into. -/
def mute : Obj → Bool
  | .deferred _ | .loop _ | .mapIter _ _ _ _ => true
  | _ => false

/-- Of what lay nothing but such objects has changed. -/
structure Quiet (D : Nat → Prop) (w w' : World) : Prop where
  size : w.heap.size ≤ w'.heap.size
  blk : ∀ B, B < w.heap.size → w'.heap[B]? = w.heap[B]? ∨ (D B ∧ ∃ x y, w.heap[B]? = some x ∧ w'.heap[B]? = some y ∧ mute x = true ∧ mute y = true)
  os : w'.os = w.os
  tape : w'.tape = w.tape
  output : w'.output = w.output

theorem Quiet.refl (D : Nat → Prop) (w : World) : Quiet D w w := ⟨Nat.le_refl _, fun _ _ => .inl rfl, rfl, rfl, rfl⟩
theorem Quiet.trans {D : Nat → Prop} {a b c : World} (h : Quiet D a b) (h' : Quiet D b c) : Quiet D a c := by
  refine ⟨Nat.le_trans h.size h'.size, fun B hB => ?_, h'.os.trans h.os, h'.tape.trans h.tape, h'.output.trans h.output⟩
  have hB' := Nat.lt_of_lt_of_le hB h.size
  rcases h.blk B hB with h1 | ⟨d, x, y, h1, h2⟩
  · rcases h'.blk B hB' with h3 | ⟨d, x, y, h3, h4⟩
    · exact .inl (h3.trans h1)
    · exact .inr ⟨d, x, y, by rw [← h1]; exact h3, h4⟩
  · rcases h'.blk B hB' with h3 | ⟨_, x', y', h3, h4, _, h5⟩
    · exact .inr ⟨d, x, y, h1, h3.trans h2.1, h2.2⟩
    · exact .inr ⟨d, x, y', h1, h4, h2.2.1, h5⟩

section
variable {D : Nat → Prop} {C : Cfg} {w : World}

theorem Quiet.kept (q : Quiet D C.w w) {B : Nat} {o : Obj} (h : C.w.heap[B]? = some o) (hd : mute o = false) : w.heap[B]? = some o := by
  rcases q.blk B (Array.getElem?_eq_some_iff.1 h).1 with h1 | ⟨_, x, y, h1, _, h2, _⟩
  · exact h1.trans h
  · rw [h1] at h; cases h; rw [h2] at hd; cases hd

theorem Quiet.cell (q : Quiet D C.w w) {B o : Nat} {v : Value} (h : C.w.cell? ⟨B, o, none⟩ = some v) : w.cell? ⟨B, o, none⟩ = some v := by
  rcases q.blk B (World.block_lt_of_cell? C.w ⟨B, o, none⟩ h) with h1 | ⟨_, x, y, h1, h2, h3, h4⟩
  · exact (cell?_of_heap h1).trans h
  · cases x <;> simp [mute] at h3 <;> simp [World.cell?, h1] at h

theorem Quiet.shape (q : Quiet D C.w w) {B : Nat} {x : TypeId × Nat} (h : C.w.shape? B = some x) : w.shape? B = some x := by
  rcases q.blk B (shape_lt h) with h1 | ⟨_, x, y, h1, h2, h3, h4⟩
  · exact (shape?_of_heap h1).trans h
  · cases x <;> simp [mute] at h3 <;> simp [World.shape?, h1] at h

theorem Quiet.grow (q : Quiet D C.w w) : Grow C (C.at w) :=
  ⟨fun _ h => h, fun _ x hx _ => ⟨x, hx, rfl, sameKind_refl x⟩, fun _ _ _ hc hs => ⟨q.cell hc, hs⟩, fun _ _ _ hb hs => ⟨q.kept hb rfl, hs⟩, fun _ _ hx => q.shape hx⟩

theorem Quiet.valid (q : Quiet D C.w w) (hv : Valid C) : Valid (C.at w) := by
  have hg := q.grow
  refine ⟨fun b x hx => ?_, hv.inj, fun b x B s hx hi => Nat.lt_of_lt_of_le (hv.old b x B s hx hi) q.size, fun B o hf => ?_⟩
  · have := hv.obj b x hx
    cases x with
    | row sz es g wr =>
      obtain ⟨h1, h2, h3⟩ := this
      exact ⟨h1, h2, h3.imp id fun ⟨B, s, c, T, hi, hb, hle, hc⟩ => ⟨B, s, c, T, hi, q.kept hb rfl, hle, fun i j e a hi' hj => let ⟨v, h4, h5⟩ := hc i j e a hi' hj; ⟨v, h4, hg.rep h5⟩⟩⟩
    | map es g v =>
      obtain ⟨h1, B, ents, clock, hi, hb, hl, hkv, hborn, hclk⟩ := this
      exact ⟨h1, B, ents, clock, hi, q.kept hb rfl, hl, fun i k v e hi' he => let ⟨h4, h5⟩ := hkv i k v e hi' he; ⟨hg.rep h4, hg.rep h5⟩, hborn, hclk⟩
  · obtain ⟨h1, h2⟩ := hv.forb B o hf
    exact ⟨Nat.lt_of_lt_of_le h1 q.size, h2⟩

theorem Quiet.fr (q : Quiet D C.w w) {C0 : Cfg} (hf : Fr C0 C) (hD : ∀ B, D B → C0.w.heap.size ≤ B) : Fr C0 (C.at w) := by
  refine ⟨Nat.le_trans hf.size q.size, fun B hB ho => ?_, hf.own, q.os.trans hf.os, q.tape.trans hf.tape, q.output.trans hf.output, hf.forb⟩
  rcases q.blk B (Nat.lt_of_lt_of_le hB hf.size) with h | ⟨d, _⟩
  · exact h.trans (hf.same B hB ho)
  · have := hD B d; omega

end

theorem leaves_marks {F : Fence} {n : Nat} {fn : Func} {tmps : Array Value} {R : Ending → World → Prop} : ∀ (Ds : List Nat) (w : World), Ds.Nodup → (∀ D ∈ Ds, w.heap[D]? = some (.deferred (some []))) →
    (∀ w', Quiet (· ∈ Ds) w w' → ∃ v, (results fn tmps).run P w' = .ok v w' ∧ R (.returned v) w') → LeavesInM F n P fn tmps R (Ds.map mark) .returning w
  | [], w, _, _, h => h w (.refl _ w)
  | D :: Ds, w, hn, hD, h => by
    have h0 := hD D List.mem_cons_self
    have hlt : D < w.heap.size := (Array.getElem?_eq_some_iff.1 h0).1
    refine ⟨by simp, .inl ⟨D, w.putObj D (.deferred none), rfl, run_takeDeferred h0, leaves_marks Ds _ (List.nodup_cons.1 hn).2 (fun D' hD' => ?_) fun w' hq => h w' ?_⟩⟩
    · have hne : D' ≠ D := fun e => (List.nodup_cons.1 hn).1 (e ▸ hD')
      exact (World.putObj_heap_other hne).trans (hD D' (List.mem_cons_of_mem _ hD'))
    · have q1 : Quiet (· ∈ D :: Ds) w (w.putObj D (.deferred none)) := by
        refine ⟨by simp, fun B _ => ?_, rfl, rfl, rfl⟩
        by_cases hB : B = D
        · subst hB
          exact .inr ⟨List.mem_cons_self, _, _, h0, World.putObj_heap_same hlt, rfl, rfl⟩
        · exact .inl (World.putObj_heap_other hB)
      exact q1.trans ⟨hq.size, fun B hB => (hq.blk B hB).imp id fun ⟨a, b⟩ => ⟨List.mem_cons_of_mem _ a, b⟩, hq.os, hq.tape, hq.output⟩

/-- What stands behind a body's end. -/
theorem back_end {fn : Func} {C C1 : Cfg} {L : List Nat} {s' : St} {a' : Act} {nx G : Nat} {d : Delta} (hv : Valid C) (hG : ∀ g, G ≤ g → g < d.G → ¬ C.K g) (hr : RelS C1 fn.ntmps s' a') (hg : Grow (C.lend L) C1) (hfr : Fr (C.lend L) C1) (hends : Ends P fn C.h L s' nx G d) :
    ∃ v, (results fn a'.tmps).run P C1.w = .ok v C1.w ∧ ∃ C' u, Ending.returned v = .returned u ∧ C'.w = C1.w ∧ VRep C' d.v u ∧ Stp C G d C' := by
  obtain ⟨rs, vs1, u1, vs2, u2, E, h1, h2, h3, h4, h5, h6, h7, h8, h9⟩ := hends.ex
  obtain ⟨cvs, hcv, hres⟩ := results_run hr h1
  -- freezing
  rw [← hr.h] at h2
  obtain ⟨vs1', u1', hu, hl1, hto, hrun1⟩ := fzL_sound (expF_sound hr.valid) rs cvs.toList _ (vs1, u1) hcv.1 hcv.2 h2
  simp only [Rd.run, Option.some.injEq, Prod.mk.injEq] at hrun1
  obtain ⟨rfl, rfl⟩ := hrun1
  obtain ⟨C2, hfz, hh2⟩ := frz_apply u1' C1 hr.valid hu
  have hmem : ∀ e ∈ u1', C2.h e.1 = e.2 := fun e he => by
    rw [hh2]
    exact hupd_mem u1' C1.h (fun e he e' he' hb => (hu e he).det (hu e' he') hb) e he
  have hreps2 : VReps C2 vs1' cvs.toList := ⟨hl1, fun i v cv hi hcvv => hto i v cv hi hcvv C2 hfz hmem⟩
  have hC2h : C2.h = hupd (hget s'.heap) u1' := by rw [hh2, hr.h]
  have hback : Back C C2 L E nx G := by
    refine ⟨hv, hfz.valid, hfr.trans hfz.fr, hg.trans hfz.grow, h4, fun g hg1 hg2 => hG g hg1 (by omega), fun b hbE x hx => ?_, fun b hbL x hx => ?_, fun b hbL => ⟨(h5 b hbL).1, (h5 b hbL).2.1⟩, fun b hbL => ?_⟩
    · obtain ⟨sz, es, g, wr, h10, h11⟩ := h3.free b hbE
      rw [hC2h, h10] at hx
      cases hx
      exact ⟨sz, es, g, wr, rfl, h11⟩
    · obtain ⟨_, _, x', h10, h11, h12⟩ := h5 b hbL
      rw [hC2h, h10] at hx
      cases hx
      exact ⟨h11, h12⟩
    · obtain ⟨_, _, x', h10, _⟩ := h5 b hbL
      exact ⟨x', by rw [hC2h, h10]⟩
  have hfinal : VReps (C.out C2 L E nx G) vs2 cvs.toList := by
    refine h3.reps hback.tf hC2h (fun k b hk => ?_) _ hreps2
    have hkl : k < E.length := (List.getElem?_eq_some_iff.1 hk).1
    refine ⟨?_, ?_, .inr ⟨by omega, by omega⟩⟩
    · simp only [Cfg.out, outB_at hk, hC2h, Nat.add_sub_cancel_left]
    · simp only [Cfg.out, outB_at hk]
  have hR : ∃ C' v, Ending.returned (oneV cvs) = .returned v ∧ C'.w = C1.w ∧ VRep C' d.v v ∧ Stp C G d C' := by
    refine ⟨C.out C2 L E nx G, oneV cvs, rfl, hfz.w, by rw [h6]; exact rep_one hfinal, ?_, fun g hk => ?_, hback.validC, hback.growC, hback.frC, by omega⟩
    · rw [h9]
      funext c
      rw [h3.upd]
      simp only [Cfg.out, hC2h]
      all_goals cases outB E nx c <;> rfl
    · rcases hk with hk | ⟨a1, a2⟩
      · exact .inl hk
      · exact .inr ⟨a1, by omega⟩
  exact ⟨oneV cvs, hres, hR⟩

/-- A contract, from the body. -/
theorem fsound_of {f : FuncId} {fn : Func} {body : Code} (hf : P.funcs[f]? = some fn) (hname : (fn.name == "runtime.NumGoroutine") = false) (hb : fn.body = some body) (S : FSpec)
    (H : ∀ as nx G d hp, (S as nx G).run hp = some d → ∃ L s0, s0.tmps = argT 0 as ∧ as.length ≤ fn.ntmps ∧ (∀ a ∈ as, Within (lentH hp L) a) ∧ (∀ b ∈ L, ∀ x, hp b = some x → ObjIn (lentH hp L) x) ∧ (hget s0.heap = fun b => if b ∈ L then hp b else none) ∧
      (∀ b g, lentH hp L b g → g < s0.G) ∧ Exec P none fn.ntmps body s0 fun e s' => (e = .normal ∨ e = .ret) ∧ Ends P fn hp L s' nx G d) : FSound P f S := by
  intro C as vs nx G d hv hargs hG hrun
  refine ⟨⟨fn, body, hf, hname, hb⟩, ?_⟩
  obtain ⟨L, s0, ht, hlen, hin, hobj, hheap, hK, hexec⟩ := H as nx G d C.h hrun
  have hlv : Valid (C.lend L) := lend_valid hv hobj
  have hal : as.length = vs.size := by simpa using hargs.1
  rw [← callsIn_wide (n := 0)]
  refine callsIn_of_wp_marks hf hb trivial ?_
  have hrel : RelS (C.lend L) fn.ntmps s0 { tmps := vs ++ Array.replicate (fn.ntmps - vs.size) undef, defers := [] } := by
    refine ⟨hlv, hheap.symm, fun t => ?_, by simp; omega, .nil _, fun g ⟨b, hg⟩ => hK b g hg⟩
    rw [ht, argT_get]
    simp only [Nat.zero_le, if_true, Nat.sub_zero]
    by_cases hlt : t < vs.size
    · have h1 : as[t]? = some as[t] := List.getElem?_eq_getElem (by omega)
      have h2 : vs.toList[t]? = some vs[t] := by rw [Array.getElem?_toList, Array.getElem?_eq_getElem hlt]
      have h3 := (lend_tf C L).rep (hargs.2 t _ _ h1 h2) (hin _ (List.getElem_mem _))
      rw [List.getD_eq_getElem?_getD, h1, Array.getD_eq_getD_getElem?, Array.getElem?_append_left hlt, Array.getElem?_eq_getElem hlt]
      exact h3
    · rw [List.getD_eq_getElem?_getD, List.getElem?_eq_none (by omega)]
      exact .undef _
  refine wpIn_mono (hexec.go 0 (C.lend L) _ hrel) fun e a' w' hh => ?_
  obtain ⟨s', C1, hw, hr, hg, hfr, he, hends⟩ := hh
  subst hw
  have fin : LeavesInM Fence.wide 0 P fn a'.tmps (fun e w' => ∃ C' v, e = .returned v ∧ C'.w = w' ∧ VRep C' d.v v ∧ Stp C G d C') a'.defers .returning C1.w := by
    obtain ⟨Ds, hDs, hnd, hD⟩ := hr.defers
    obtain ⟨hfr0, Ds', hnew, hge⟩ := hfr
    have hDD : Ds.map mark = Ds'.map mark := by rw [← hDs, hnew]; simp
    have hDs' : Ds = Ds' := (List.map_inj_right fun x y h => by simpa [mark] using h).1 hDD
    rw [hDs]
    refine leaves_marks Ds C1.w hnd (fun D hDm => (hD D hDm).1) fun w2 q => ?_
    have hr2 : RelS (C1.at w2) fn.ntmps s' { a' with defers := [] } := ⟨q.valid hr.valid, hr.h, fun t => q.grow.rep (hr.tmps t), hr.size, .nil _, hr.K⟩
    exact back_end hv hG hr2 (hg.trans q.grow) (q.fr hfr0 fun B hB => hge B (hDs' ▸ hB)) hends
  rcases he with rfl | rfl
  · exact fin
  · exact fin

end Go.AI

namespace Go.AI
variable {P : Program} {X : Ext}

theorem resNone (hp : Nat → Option AObj) : (fun c => if c ∈ ([] : List Nat) then (none : Option AObj) else hp c) = hp := by funext c; simp

/-- How a body may end that was handed nothing. -/
def Ends0 (P : Program) (fn : Func) (s : St) (nx G : Nat) (d : Delta) : Prop :=
  ∃ rs vs1 u1 vs2 u2 E, resL P s fn.results.toList = some rs ∧ (fzL expF rs fun vs u => .ret (vs, u)).run (hget s.heap) = some (vs1, u1) ∧
    Exp (fun _ _ => False) (hupd (hget s.heap) u1) vs1 nx G vs2 u2 E ∧ E.Nodup ∧ d = ⟨oneA vs2, u2, nx + E.length, G + E.length⟩

theorem Exp.mono {p q : Nat → Nat → Prop} (hpq : ∀ b g, p b g → q b g) {h : Nat → Option AObj} {vs vs' : List AVal} {nx G : Nat} {u : List Upd} {E : List Nat} (H : Exp p h vs nx G vs' u E) : Exp q h vs nx G vs' u E := by
  induction H with
  | nil nx G => exact .nil nx G
  | keep hv _ ih => exact .keep (hv.mono hpq) ih
  | row hb hf _ ih => exact .row hb hf ih
  | rowA hcs hb hf _ ih => exact .rowA (fun a ha => (hcs a ha).mono hpq) hb hf ih

theorem Ends0.ends {fn : Func} {s : St} {nx G : Nat} {d : Delta} (h : Ends0 P fn s nx G d) (hp : Nat → Option AObj) : Ends P fn hp [] s nx G d := by
  obtain ⟨rs, vs1, u1, vs2, u2, E, h1, h2, h3, h4, rfl⟩ := h
  refine ⟨rs, vs1, u1, vs2, u2, E, h1, h2, h3.mono fun _ _ h => h.elim, h4, by simp, rfl, rfl, rfl, ?_⟩
  simp

theorem fsound_pure {f : FuncId} {fn : Func} {body : Code} (hf : P.funcs[f]? = some fn) (hname : (fn.name == "runtime.NumGoroutine") = false) (hb : fn.body = some body) (S : FSpec)
    (H : ∀ as nx G d hp, (S as nx G).run hp = some d → as.length ≤ fn.ntmps ∧ (∀ a ∈ as, Free a) ∧ Exec P none fn.ntmps body ⟨argT 0 as, [], 0, 0⟩ fun e s' => (e = .normal ∨ e = .ret) ∧ Ends0 P fn s' nx G d) : FSound P f S := by
  refine fsound_of hf hname hb S fun as nx G d hp hr => ?_
  obtain ⟨h1, h2, h3⟩ := H as nx G d hp hr
  refine ⟨[], ⟨argT 0 as, [], 0, 0⟩, rfl, h1, fun a ha => (h2 a ha).mono fun _ _ h => h.elim, by simp, by funext b; simp [hget], by simp, h3.mono fun e s hh => ⟨hh.1, hh.2.ends hp⟩⟩

/-! ### Tables -/
def specOf : List (FuncId × FSpec) → FuncId → FSpec
  | [], _ => fun _ _ _ => .fail
  | (g, S) :: l, f => if g = f then S else specOf l f

def Ext.of (l : List (FuncId × FSpec)) (raw : List FuncId) : Ext := ⟨specOf l, fun f => raw.contains f⟩

def AllSound (P : Program) : List (FuncId × FSpec) → Prop
  | [] => True
  | (f, S) :: l => FSound P f S ∧ AllSound P l

theorem specOf_sound : ∀ {l : List (FuncId × FSpec)}, AllSound P l → ∀ f, FSound P f (specOf l f)
  | [], _, _ => fun _ _ _ _ _ _ _ _ _ h => by simp [specOf, Rd.run] at h
  | (g, S) :: l, h, f => by
    simp only [specOf]
    split
    · rename_i hgf; subst hgf; exact h.1
    · exact specOf_sound h.2 f

theorem Ext.of_sound {l : List (FuncId × FSpec)} {raw : List FuncId} (h : AllSound P l) : (Ext.of l raw).Sound P := specOf_sound h

/-! ### Steps -/
theorem runL_nil {ops : Array Oper} {s : St} : runL P X ops [] s = some s := rfl

theorem runL_cons {ops : Array Oper} {o : Oper} {l : List Oper} {s s' : St} {r : Rec} (h : stepA P X ops s o = some r) (h' : runL P X ops l (s.app o.dst r.d) = some s') : runL P X ops (o :: l) s = some s' := by
  simp only [runL, h]; exact h'

theorem step_free {ops : Array Oper} {s : St} {o : Oper} {d : Delta} (hg : o.guard = none) (h : (opR P X s.ev s.nx s.G o).run (hget s.heap) = some d) : stepA P X ops s o = some ⟨s.nx, s.G, d, (opR P X s.ev s.nx s.G o).reads (hget s.heap)⟩ := by
  simp only [stepA, wantedA, hg, h]

end Go.AI
