/- Maps whose keys and values are encoded: finding, laying, striking out. A map's version is nobody's business. Contracts of functions that look at lent rows and leave them as they are. A loop over a map that nobody writes: its entries come in any order. No condition. -/
import Derived.Test.YtlidakhdcnkabaaM06
import Derived.Maps.RangeRun
namespace Go.AI

/-- An association list, encoded. -/
abbrev kvs {κ β : Type} (ke : κ → AVal) (ve : β → AVal) (s : List (κ × β)) : List (AVal × AVal) := s.map fun p => (ke p.1, ve p.2)

def upK {κ β : Type} [DecidableEq κ] (k : κ) (v : β) : List (κ × β) → List (κ × β)
  | [] => [(k, v)]
  | (x, u) :: s => if k = x then (k, v) :: s else (x, u) :: upK k v s

def delK {κ β : Type} [DecidableEq κ] (k : κ) : List (κ × β) → List (κ × β)
  | [] => []
  | (x, u) :: s => if k = x then s else (x, u) :: delK k s

def getK {κ β : Type} [DecidableEq κ] (k : κ) : List (κ × β) → Option β
  | [] => none
  | (x, u) :: s => if k = x then some u else getK k s

section
variable {κ β : Type} [DecidableEq κ] {ke : κ → AVal} {ve : β → AVal} {eq : AVal → AVal → Option Bool}

theorem findA_kvs (h : ∀ a b, eq (ke a) (ke b) = some (decide (a = b))) (k : κ) : ∀ s : List (κ × β), findA eq (ke k) (kvs ke ve s) = some ((getK k s).map ve)
  | [] => rfl
  | (x, u) :: s => by
    simp only [kvs, List.map_cons, findA, h, getK]
    by_cases hk : k = x
    · simp [hk]
    · simp only [hk, decide_false, if_false]
      exact findA_kvs h k s

theorem upsertA_kvs (h : ∀ a b, eq (ke a) (ke b) = some (decide (a = b))) (hs : ∀ a, sameA (ke a) (ke a) = true) (k : κ) (v : β) : ∀ s : List (κ × β), upsertA eq (ke k) (ve v) (kvs ke ve s) = some (kvs ke ve (upK k v s))
  | [] => rfl
  | (x, u) :: s => by
    simp only [kvs, List.map_cons, upsertA, h, upK]
    by_cases hk : k = x
    · subst hk; simp [hs]
    · simp only [hk, decide_false, if_false, List.map_cons]
      have := upsertA_kvs h hs k v s
      simp only [kvs] at this
      rw [this]; rfl

theorem eraseA_kvs (h : ∀ a b, eq (ke a) (ke b) = some (decide (a = b))) (k : κ) : ∀ s : List (κ × β), eraseA eq (ke k) (kvs ke ve s) = some (kvs ke ve (delK k s))
  | [] => rfl
  | (x, u) :: s => by
    simp only [kvs, List.map_cons, eraseA, h, delK]
    by_cases hk : k = x
    · simp [hk]
    · simp only [hk, decide_false, if_false, List.map_cons]
      have := eraseA_kvs h k s
      simp only [kvs] at this
      rw [this]; rfl
end

end Go.AI

namespace Go.AI
variable {N : Nat}

/-- A map's version may be taken for any other. -/
theorem View.mapv (s : St) (b g v v' : Nat) (es : List (AVal × AVal)) (h : hget s.heap b = some (.map es g v)) : View N s ⟨s.tmps, (b, some (.map es g v')) :: s.heap, s.nx, s.G⟩ := by
  intro C a hr
  have hb : C.h b = some (.map es g v) := by rw [hr.h]; exact h
  have hg : Grow C { C with h := setAt C.h b (some (.map es g v')) } := by
    refine ⟨fun _ h => h, fun c x hx _ => ?_, fun B o u hc hs => ⟨hc, hs.1, fun c x o' hx hi => ?_⟩, fun B ents clock hB hs => ⟨hB, fun o => ⟨(hs o).1, fun c x o' hx hi => ?_⟩⟩, fun _ _ h => h⟩
    · simp only [setAt] at hx
      split at hx
      · rename_i hcb; subst hcb; cases hx; exact ⟨_, hb, rfl, rfl⟩
      · exact ⟨x, hx, rfl, sameKind_refl x⟩
    · simp only [setAt] at hx
      split at hx
      · rename_i hcb; subst hcb; cases hx; exact hs.2 c (.map es g v) o' hb hi
      · exact hs.2 c x o' hx hi
    · simp only [setAt] at hx
      split at hx
      · rename_i hcb; subst hcb; cases hx; exact (hs o).2 c (.map es g v) o' hb hi
      · exact (hs o).2 c x o' hx hi
  have old : ∀ c x, setAt C.h b (some (.map es g v')) c = some x → ∃ y, C.h c = some y ∧ (c = b ∨ y = x) := fun c x hx => by
    simp only [setAt] at hx
    split at hx
    · rename_i hcb; subst hcb; exact ⟨_, hb, .inl rfl⟩
    · exact ⟨x, hx, .inr rfl⟩
  have hown : ∀ B, Cfg.owned { C with h := setAt C.h b (some (.map es g v')) } B → C.owned B := fun B ⟨c, x, o, hx, hi⟩ => let ⟨y, hy, _⟩ := old c x hx; ⟨c, y, o, hy, hi⟩
  refine ⟨{ C with h := setAt C.h b (some (.map es g v')) }, rfl, ⟨⟨fun c x hx => ?_, fun c c' x x' B o o' hx hx' hi hi' => ?_, fun c x B o hx hi => ?_, fun B o hf => ⟨(hr.valid.forb B o hf).1, fun ho => (hr.valid.forb B o hf).2 (hown B ho)⟩⟩, ?_, fun t => hg.rep (hr.tmps t), hr.size, hr.defers.fr ⟨Nat.le_refl _, fun _ _ _ => rfl, fun B h => .inl (hown B h), rfl, rfl, rfl, rfl⟩, hr.K⟩, hg, ⟨Nat.le_refl _, fun _ _ _ => rfl, fun B h => .inl (hown B h), rfl, rfl, rfl, rfl⟩⟩
  · have key : ∀ x, C.h c = some x → ObjOk { C with h := setAt C.h b (some (.map es g v')) } c x := fun x hx => by
      have := hr.valid.obj c x hx
      cases x with
      | row sz es g wr =>
        obtain ⟨h1, h2, h3⟩ := this
        exact ⟨h1, h2, h3.imp id fun ⟨B, s, c, T, hi, hb, hle, hc⟩ => ⟨B, s, c, T, hi, hb, hle, fun i j e a hi' hj => let ⟨v, h4, h5⟩ := hc i j e a hi' hj; ⟨v, h4, hg.rep h5⟩⟩⟩
      | map es g v =>
        obtain ⟨h1, B, ents, clock, hi, hb, hl, hkv, hrest⟩ := this
        exact ⟨h1, B, ents, clock, hi, hb, hl, fun i k v e hi' he => let ⟨h4, h5⟩ := hkv i k v e hi' he; ⟨hg.rep h4, hg.rep h5⟩, hrest⟩
    simp only [setAt] at hx
    split at hx
    · rename_i hcb; subst hcb; cases hx; exact key (.map es g v) hb
    · exact key x hx
  · obtain ⟨y, hy, _⟩ := old c x hx
    obtain ⟨y', hy', _⟩ := old c' x' hx'
    exact hr.valid.inj c c' y y' B o o' hy hy' hi hi'
  · obtain ⟨y, hy, _⟩ := old c x hx
    exact hr.valid.old c y B o hy hi
  · funext c
    show setAt C.h b _ c = hget _ c
    simp only [hget, setAt, hr.h]
    by_cases hcb : c = b
    · subst hcb; simp
    · rw [if_neg hcb, if_neg (Ne.symm hcb)]

end Go.AI

namespace Go.AI
variable {P : Program} {X : Ext}

def lentB (Lh : AHeap) (b g : Nat) : Prop := ∃ e ∈ Lh, e.1 = b ∧ ∃ x, e.2 = some x ∧ x.gen = g

theorem hget_key {hp : Nat → Option AObj} : ∀ {Lh : AHeap}, (∀ e ∈ Lh, hp e.1 = e.2) → ∀ b, hget Lh b = if b ∈ Lh.map (·.1) then hp b else none
  | [], _, b => by simp [hget]
  | (c, o) :: Lh, h, b => by
    have ih := hget_key (Lh := Lh) (fun e he => h e (List.mem_cons_of_mem _ he)) b
    have h0 : hp c = o := h (c, o) List.mem_cons_self
    simp only [hget, List.map_cons, List.mem_cons]
    by_cases hc : c = b
    · subst hc; simp [h0]
    · have hcb : ¬ b = c := fun h => hc h.symm
      rw [if_neg hc, ih]
      simp only [hcb, false_or]

structure LookEnd (P : Program) (fn : Func) (Lh : AHeap) (s' : St) (nx G : Nat) (d : Delta) : Prop where
  ex : ∃ rs, resL P s' fn.results.toList = some rs ∧ (∀ k : List AVal → List Upd → Rd (List AVal × List Upd), fzL expF rs k = k rs []) ∧ (∀ v ∈ rs, Free v) ∧ (∀ e ∈ Lh, hget s'.heap e.1 = e.2) ∧ d = ⟨oneA rs, [], nx, G⟩

theorem fsound_look {f : FuncId} {fn : Func} {body : Code} (hf : P.funcs[f]? = some fn) (hname : (fn.name == "runtime.NumGoroutine") = false) (hb : fn.body = some body) (S : FSpec)
    (H : ∀ xs nx G d hp, (S xs nx G).run hp = some d → ∃ (Lh : AHeap) (nx0 G0 : Nat), (∀ e ∈ Lh, hp e.1 = e.2) ∧ (∀ e ∈ Lh, ∃ sz es g wr, e.2 = some (.row sz es g wr) ∧ g < G0 ∧ ∀ c ∈ es, ∀ a ∈ c, Free a) ∧ xs.length ≤ fn.ntmps ∧ (∀ a ∈ xs, Within (lentB Lh) a) ∧
      Exec P none fn.ntmps body ⟨argT 0 xs, Lh, nx0, G0⟩ fun e s' => (e = .normal ∨ e = .ret) ∧ LookEnd P fn Lh s' nx G d) : FSound P f S := by
  refine fsound_of hf hname hb S fun xs nx G d hp hr => ?_
  obtain ⟨Lh, nx0, G0, h1, h2, h3, h4, h5⟩ := H xs nx G d hp hr
  have hlent : ∀ b g, lentB Lh b g → lentH hp (Lh.map (·.1)) b g := by
    rintro b g ⟨e, he, rfl, x, hx, hg⟩
    exact ⟨List.mem_map_of_mem he, x, by rw [h1 e he, hx], hg⟩
  have hback : ∀ b g, lentH hp (Lh.map (·.1)) b g → g < G0 := by
    rintro b g ⟨hb, x, hx, rfl⟩
    obtain ⟨e, he, rfl⟩ := List.mem_map.1 hb
    obtain ⟨sz, es, g, wr, h6, h7, _⟩ := h2 e he
    rw [h1 e he, h6] at hx
    cases hx
    exact h7
  have hobj : ∀ b ∈ Lh.map (·.1), ∀ x, hp b = some x → ObjIn (lentH hp (Lh.map (·.1))) x := by
    intro b hb x hx
    obtain ⟨e, he, rfl⟩ := List.mem_map.1 hb
    obtain ⟨sz, es, g, wr, h6, _, h7⟩ := h2 e he
    rw [h1 e he, h6] at hx
    cases hx
    exact fun c hc a ha => (h7 c hc a ha).mono fun _ _ h => h.elim
  refine ⟨Lh.map (·.1), ⟨argT 0 xs, Lh, nx0, G0⟩, rfl, h3, fun a ha => (h4 a ha).mono hlent, hobj, ?_, hback, h5.mono fun e s' hh => ⟨hh.1, ?_⟩⟩
  · funext b; exact hget_key h1 b
  · obtain ⟨rs, r1, r2, r3, r4, rfl⟩ := hh.2
    have hexp : ∀ (vs : List AVal), (∀ v ∈ vs, Free v) → Exp (lentH hp (Lh.map (·.1))) (hupd (hget s'.heap) []) vs nx G vs [] [] := by
      intro vs
      induction vs with
      | nil => exact fun _ => .nil nx G
      | cons v vs ih => exact fun h => .keep ((h v List.mem_cons_self).mono fun _ _ h => h.elim) (ih fun w hw => h w (List.mem_cons_of_mem _ hw))
    refine ⟨rs, rs, [], rs, [], [], r1, by rw [r2]; rfl, hexp rs r3, .nil, ?_, rfl, rfl, rfl, ?_⟩
    · intro b hb
      obtain ⟨e, he, rfl⟩ := List.mem_map.1 hb
      obtain ⟨sz, es, g, wr, h6, _, _⟩ := h2 e he
      refine ⟨by simp [outB], by simp, _, (r4 e he).trans h6, ⟨e.1, hb, _, (h1 e he).trans h6, rfl⟩, hobj e.1 hb _ ((h1 e he).trans h6)⟩
    · funext c
      simp only [hupd]
      by_cases hc : c ∈ Lh.map (·.1)
      · rw [if_pos hc]
        obtain ⟨e, he, rfl⟩ := List.mem_map.1 hc
        rw [r4 e he, h1 e he]
      · rw [if_neg hc]

theorem look_end {fn : Func} {Lh : AHeap} {s' : St} {nx G : Nat} {l : List ResultVar} {rs : List AVal} (hres : fn.results.toList = l) (h1 : resL P s' l = some rs) (h2 : ∀ k : List AVal → List Upd → Rd (List AVal × List Upd), fzL expF rs k = k rs []) (h3 : ∀ v ∈ rs, Free v) (h4 : ∀ e ∈ Lh, hget s'.heap e.1 = e.2) : LookEnd P fn Lh s' nx G ⟨oneA rs, [], nx, G⟩ :=
  ⟨rs, by rw [hres]; exact h1, h2, h3, h4, rfl⟩

/-- Where nothing is frozen. -/
@[simp] theorem bindUpd_nil : ∀ r : Rd Delta, callR.bindUpd [] r = r
  | .ret d => by simp only [callR.bindUpd, List.nil_append]
  | .fail => rfl
  | .get b k => by
    simp only [callR.bindUpd, List.reverse_nil, List.find?_nil, Option.elim_none]
    congr 1
    funext o
    exact bindUpd_nil (k o)

end Go.AI

namespace Go.AI
open Go.ChangeMaps (setBlock)
variable {P : Program} {X : Ext} {N : Nat} {r0 : Option Nat}

theorem plain_op {r : Option Nat} {n i : Nat} {ops : Array Oper} {Q : Exit → Act → World → Prop} {K : Act → World → Prop} {a : Act} {w w' : World} {o : Oper} {v : Value} (ho : ops[i]? = some o) (hg : o.guard = none) (hnc : ∀ c, o.op ≠ .defer c)
    (hrun : (execOp a.eval o).run P w = .ok (.value v) w') (hK : K (a.put o.dst v) w') : wpOpIn (W r) n P ops Q i K a w := by
  unfold wpOpIn
  rw [ho]
  simp only
  rw [if_pos (by simp [Region.wanted, hg])]
  refine ⟨fun _ _ => trivial, ?_⟩
  have hsem : (o.semAt (W r).round a.eval) = execOp a.eval o := Oper.semAt_eq _ _ _ fun c h => absurd h (hnc c)
  rw [hsem, hrun]
  exact hK

/-- An iterator over es at block r; 'done': the places of the entries that it has handed. -/
inductive ItAt (C : Cfg) (r : Nat) : List (AVal × AVal) → List Nat → Prop
  | nil (s b : Nat) (l : Array Nat) (h : C.w.heap[r]? = some (.mapIter none s l b)) : ItAt C r [] []
  | mk (es : List (AVal × AVal)) (done : List Nat) (B : Nat) (ents : Array MapEntry) (clock c0 : Nat) (seen : Array Nat) (hr : C.w.heap[r]? = some (.mapIter (some B) clock seen c0)) (hB : C.w.heap[B]? = some (.map ents clock)) (hl : ents.size = es.length)
      (hrep : ∀ (i : Nat) k v (e : MapEntry), es[i]? = some (k, v) → ents[i]? = some e → VRep C k e.key ∧ VRep C v e.val)
      (hborn : ∀ (i j : Nat) (e f : MapEntry), ents[i]? = some e → ents[j]? = some f → e.born = f.born → i = j) (hclock : ∀ (i : Nat) (e : MapEntry), ents[i]? = some e → e.born < clock) (hc0 : clock ≤ c0)
      (hs : ∀ o, C.safe B o) (hseen : ∀ (i : Nat) (e : MapEntry), ents[i]? = some e → (seen.contains e.born = true ↔ i ∈ done)) : ItAt C r es done

theorem ItAt.keep {C C' : Cfg} {r : Nat} {es : List (AVal × AVal)} {done : List Nat} (h : ItAt C r es done) (hg : Grow C C') (hr : C'.w.heap[r]? = C.w.heap[r]?) : ItAt C' r es done := by
  cases h with
  | nil s b l h => exact .nil s b l (hr.trans h)
  | mk _ _ B ents clock c0 seen h1 hB hl hrep hborn hclock hc0 hs hseen =>
    obtain ⟨h2, h3⟩ := hg.mapo B ents clock hB hs
    exact .mk es done B ents clock c0 seen (hr.trans h1) h2 hl (fun i k v e h4 h5 => let ⟨h6, h7⟩ := hrep i k v e h4 h5; ⟨hg.rep h6, hg.rep h7⟩) hborn hclock hc0 h3 hseen

theorem ItAt.blk {C : Cfg} {r : Nat} {es : List (AVal × AVal)} {done : List Nat} (h : ItAt C r es done) : ∃ m s l b, C.w.heap[r]? = some (.mapIter m s l b) := by
  cases h with
  | nil s b l h => exact ⟨_, _, _, _, h⟩
  | mk _ _ B ents clock c0 seen h1 => exact ⟨_, _, _, _, h1⟩

/-- 'range'. -/
theorem it_range {C : Cfg} {es : List (AVal × AVal)} {m : Value} (hm : VRep C (.im es) m) {t kt et : TypeId} (ht : P.underlying t = some (.map kt et)) :
    ∃ m' s l b, (Instr.range t m).run P C.w = .ok (.pointer (some ⟨C.w.heap.size, 0, none⟩)) (C.w.alloc (.mapIter m' s l b)) ∧ ItAt (C.at (C.w.alloc (.mapIter m' s l b))) C.w.heap.size es [] := by
  have hnew : ∀ o, (C.w.alloc o).heap[C.w.heap.size]? = some o := fun o => World.alloc_heap_new C.w o
  cases hm with
  | im0 => exact ⟨_, _, _, _, run_range_nilMap C.w t kt et ht, .nil _ _ _ (hnew _)⟩
  | im _ B ents clock hb hl hk hv hborn hclock hs =>
    have hlt : B < C.w.heap.size := (Array.getElem?_eq_some_iff.1 hb).1
    have q := quiet_alloc (fun _ => False) C.w (.mapIter (some B) clock #[] clock)
    have hg : Grow C (C.at _) := q.grow
    obtain ⟨h2, h3⟩ := hg.mapo B ents clock hb hs
    exact ⟨_, _, _, _, run_range_map C.w t kt et B ents clock ht hb, .mk es [] B ents clock clock #[] (hnew _) h2 hl (fun i k v e h4 h5 => ⟨hg.rep (hk i k v e h4 h5), hg.rep (hv i k v e h4 h5)⟩) hborn hclock (Nat.le_refl _) h3 (by simp)⟩

/-- 'next'. -/
theorem it_next {C : Cfg} {r : Nat} {es : List (AVal × AVal)} {done : List Nat} (h : ItAt C r es done) (ty : TypeId) (hown : ¬ C.owned r) :
    ((∀ i, i < es.length → i ∈ done) ∧ (Instr.next (.pointer (some ⟨r, 0, none⟩)) false ty).run P C.w = .ok (.tuple #[.bool false]) C.w) ∨
    ∃ i k v key val w', es[i]? = some (k, v) ∧ i ∉ done ∧ (Instr.next (.pointer (some ⟨r, 0, none⟩)) false ty).run P C.w = .ok (.tuple #[.bool true, key, val]) w' ∧ Quiet (· = r) C.w w' ∧ ItAt (C.at w') r es (i :: done) ∧
      (Instr.entry (.pointer (some ⟨r, 0, none⟩))).run P w' = .ok (.tuple #[key, val]) w' ∧ VRep (C.at w') k key ∧ VRep (C.at w') v val := by
  cases h with
  | nil s b l h =>
    refine .inl ⟨by simp, ?_⟩
    simp only [Instr.next, getObj, Sem.run_bind, Sem.run, h, Result.andThen]
    rfl
  | mk _ _ B ents clock c0 seen hr hB hl hrep hborn hclock hc0 hs hseen =>
    have hold : ∀ x ∈ ents.toList, x.born < clock := fun x hx => by
      obtain ⟨i, hi⟩ := List.getElem?_of_mem hx
      exact hclock i x (by rw [← Array.getElem?_toList]; exact hi)
    have hnd : (ents.toList.map (·.born)).Nodup := by
      rw [List.nodup_iff_pairwise_ne, List.pairwise_map, List.pairwise_iff_getElem]
      intro i j hi hj hij he
      have := hborn i j _ _ (Array.getElem?_eq_getElem (by simpa using hi)) (Array.getElem?_eq_getElem (by simpa using hj)) (by simpa using he)
      omega
    rcases run_next_at (P := P) C.w ty r B clock c0 seen ents clock hr hB hold hc0 with ⟨h0, hrun⟩ | ⟨e, he, w1, hal, hrun⟩
    · refine .inl ⟨fun i hi => ?_, hrun⟩
      have hi' : i < ents.size := by omega
      have := all_seen ents seen h0 ents[i] (by simp)
      exact (hseen i ents[i] (Array.getElem?_eq_getElem hi')).1 this
    · obtain ⟨hem, hes⟩ := mem_left he
      obtain ⟨i, hi⟩ := List.getElem?_of_mem hem
      rw [Array.getElem?_toList] at hi
      have hil : i < es.length := by rw [← hl]; exact (Array.getElem?_eq_some_iff.1 hi).1
      obtain ⟨⟨k, v⟩, hkv⟩ : ∃ p, es[i]? = some p := ⟨es[i], List.getElem?_eq_getElem hil⟩
      have hr1 : w1.heap[r]? = some (.mapIter (some B) clock seen c0) := by rcases hal with rfl | rfl <;> exact hr
      have hB1 : w1.heap[B]? = some (.map ents clock) := by rcases hal with rfl | rfl <;> exact hB
      have hset := MapKept.heap_set (o' := .mapIter (some B) clock (seen.push e.born) clock) hr1
      have hne : B ≠ r := fun h => by rw [h, hr] at hB; cases hB
      have hsz : (setBlock w1 r (.mapIter (some B) clock (seen.push e.born) clock)).heap.size = C.w.heap.size := by
        show (w1.heap.setIfInBounds r _).size = _
        rw [Array.size_setIfInBounds]
        rcases hal with rfl | rfl <;> rfl
      have q : Quiet (· = r) C.w (setBlock w1 r (.mapIter (some B) clock (seen.push e.born) clock)) := by
        refine ⟨by rw [hsz]; exact Nat.le_refl _, fun b hb => ?_, by rcases hal with rfl | rfl <;> rfl, by rcases hal with rfl | rfl <;> rfl, by rcases hal with rfl | rfl <;> rfl⟩
        by_cases hbr : b = r
        · subst hbr
          exact .inr ⟨rfl, _, _, hr, hset.1, rfl, rfl⟩
        · refine .inl ((hset.2 b hbr).trans ?_)
          rcases hal with rfl | rfl <;> rfl
      have hg : Grow C (C.at _) := q.grow
      have hB2 := (hset.2 B hne).trans hB1
      refine .inr ⟨i, k, v, e.key, e.val, _, hkv, fun hid => ?_, hrun, q, ?_, run_entry_at _ r B clock seen ents clock e hset.1 hB2 hem hnd, hg.rep (hrep i k v e hkv hi).1, hg.rep (hrep i k v e hkv hi).2⟩
      · have := (hseen i e hi).2 hid
        rw [hes] at this
        cases this
      · refine .mk es (i :: done) B ents clock clock (seen.push e.born) hset.1 hB2 hl (fun j k v f h4 h5 => let ⟨h6, h7⟩ := hrep j k v f h4 h5; ⟨hg.rep h6, hg.rep h7⟩) hborn hclock (Nat.le_refl _) (hg.mapo B ents clock hB hs).2 fun j f hf => ?_
        rw [contains_push, Bool.or_eq_true, hseen j f hf, List.mem_cons, beq_iff_eq]
        constructor
        · rintro (h | h)
          · exact .inr h
          · exact .inl (hborn j i f e hf hi h)
        · rintro (rfl | h)
          · rw [hf] at hi; cases hi; exact .inr rfl
          · exact .inl h

end Go.AI
