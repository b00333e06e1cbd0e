/- What one operation does with abstract values is what the model does with values: writing maps; append; len. What one operation does with abstract values is what the model does with values: append, len, cap, min. Each operation but a call of a function: what the abstract machine does with it is what the model does. Each operation but a call of a function: what the abstract machine does with it is what the model does, all kinds together. No condition. -/
import Derived.Test.YtlidakhdcnkabaaM02
namespace Go.AI
variable {P : Program} {C : Cfg}

/-! ### Writing a map -/
/-- A map's entries, as the relation has them. -/
def EntRep (C : Cfg) (es : List (AVal × AVal)) (ents : Array MapEntry) (clock : Nat) : Prop :=
  ents.size = es.length ∧ (∀ (i : Nat) k v (e : MapEntry), es[i]? = some (k, v) → ents[i]? = some e → VRep C k e.key ∧ VRep C v e.val) ∧
  (∀ (i j : Nat) (e f : MapEntry), ents[i]? = some e → ents[j]? = some f → e.born = f.born → i = j) ∧ (∀ (i : Nat) (e : MapEntry), ents[i]? = some e → e.born < clock)

theorem setObj_heap (w : World) (B : Nat) (o : Obj) (es : Array MapEntry) (c : Nat) (hat : w.heap[B]? = some (.map es c)) :
    (setObj B o).run P w = .ok () { w with heap := w.heap.setIfInBounds B o } := by simp [setObj, Sem.run, hat]

theorem map_out (hv : Valid C) {nx G b g ver : Nat} {es es' : List (AVal × AVal)} (hb : C.h b = some (.map es g ver)) {B : Nat} (hi : C.ι b = some (B, 0)) {ents : Array MapEntry} {clock : Nat} (hat : C.w.heap[B]? = some (.map ents clock))
    {d : Delta} (hd : d = ⟨.tup [], [(b, some (.map es' g (ver + 1)))], nx, G⟩) {ents' : Array MapEntry} {clock' : Nat} (hrep : EntRep C es' ents' clock') :
    ∃ C', C'.w = { C.w with heap := C.w.heap.setIfInBounds B (.map ents' clock') } ∧ Stp C G d C' := by
  have hB : B < C.w.heap.size := (Array.getElem?_eq_some_iff.1 hat).1
  have hc : Chg C b (some (.map es' g (ver + 1))) (some (B, 0)) { C.w with heap := C.w.heap.setIfInBounds B (.map ents' clock') } G G :=
    chg_map (ents' := ents') (clock' := clock') hb hi hat (by simp [hB]) (by simp) (fun k hk => by simp [Array.getElem?_setIfInBounds_ne (Ne.symm hk)]) rfl rfl rfl
  subst hd
  refine ⟨_, rfl, Stp.chg hv hc (Nat.le_refl _) rfl fun hg y hy => ?_⟩
  cases hy
  obtain ⟨h1, _⟩ := hv.obj b _ hb
  refine ⟨hg.K g h1, B, ents', clock', by simp [Cfg.chg, setAt], by simp [Cfg.chg, hB], hrep.1, fun i k v e h2 h3 => ?_, hrep.2.2.1, hrep.2.2.2⟩
  obtain ⟨h4, h5⟩ := hrep.2.1 i k v e h2 h3
  exact ⟨hg.rep h4, hg.rep h5⟩

theorem sameCs_bits : ∀ (as bs : List AVal) (us vs : List Value), as.length = us.length → bs.length = vs.length → (∀ (i : Nat) (a : AVal) (v : Value), as[i]? = some a → us[i]? = some v → VRep C a v) →
    (∀ (i : Nat) (a : AVal) (v : Value), bs[i]? = some a → vs[i]? = some v → VRep C a v) → sameCs as bs = true → us = vs ∧ ∀ n, ((us.zip vs).all fun (x, y) => Instr.sameBits (n + 1) x y) = true
  | [], [], us, vs, h1, h2, _, _, _ => by
    have e1 : us = [] := by simpa using h1.symm
    have e2 : vs = [] := by simpa using h2.symm
    subst e1; subst e2
    exact ⟨rfl, fun _ => rfl⟩
  | .int j a :: as, .int k b :: bs, us, vs, h1, h2, r1, r2, h => by
    cases us with
    | nil => simp at h1
    | cons u us =>
    cases vs with
    | nil => simp at h2
    | cons v vs =>
      simp only [sameCs, Bool.and_eq_true, beq_iff_eq] at h
      obtain ⟨⟨rfl, rfl⟩, h⟩ := h
      have hu := r1 0 _ u rfl rfl
      have hv := r2 0 _ v rfl rfl
      cases hu; cases hv
      obtain ⟨h3, h4⟩ := sameCs_bits as bs us vs (by simpa using h1) (by simpa using h2) (fun i => r1 (i + 1)) (fun i => r2 (i + 1)) h
      exact ⟨by rw [h3], fun n => by simp only [List.zip_cons_cons, List.all_cons, h4, Instr.sameBits, beq_self_eq_true, Bool.and_self]⟩
  | .bool a :: as, .bool b :: bs, us, vs, h1, h2, r1, r2, h => by
    cases us with
    | nil => simp at h1
    | cons u us =>
    cases vs with
    | nil => simp at h2
    | cons v vs =>
      simp only [sameCs, Bool.and_eq_true, beq_iff_eq] at h
      obtain ⟨rfl, h⟩ := h
      have hu := r1 0 _ u rfl rfl
      have hv := r2 0 _ v rfl rfl
      cases hu; cases hv
      obtain ⟨h3, h4⟩ := sameCs_bits as bs us vs (by simpa using h1) (by simpa using h2) (fun i => r1 (i + 1)) (fun i => r2 (i + 1)) h
      exact ⟨by rw [h3], fun n => by simp only [List.zip_cons_cons, List.all_cons, h4, Instr.sameBits, beq_self_eq_true, Bool.and_self]⟩
  | [], _ :: _, _, _, _, _, _, _, h => by simp [sameCs] at h
  | .int _ _ :: _, [], _, _, _, _, _, _, h => by simp [sameCs] at h
  | .bool _ :: _, [], _, _, _, _, _, _, h => by simp [sameCs] at h
  | .int _ _ :: _, .bool _ :: _, _, _, _, _, _, _, h => by simp [sameCs] at h
  | .bool _ :: _, .int _ _ :: _, _, _, _, _, _, _, h => by simp [sameCs] at h
  | .str _ :: _, _, _, _, _, _, _, _, h => by simp [sameCs] at h
  | .agg _ :: _, _, _, _, _, _, _, _, h => by simp [sameCs] at h
  | .tup _ :: _, _, _, _, _, _, _, _, h => by simp [sameCs] at h
  | .nilp :: _, _, _, _, _, _, _, _, h => by simp [sameCs] at h
  | .ptr _ _ _ _ :: _, _, _, _, _, _, _, _, h => by simp [sameCs] at h
  | .pim _ _ :: _, _, _, _, _, _, _, _, h => by simp [sameCs] at h
  | .sl _ _ _ _ :: _, _, _, _, _, _, _, _, h => by simp [sameCs] at h
  | .il _ _ :: _, _, _, _, _, _, _, _, h => by simp [sameCs] at h
  | .mp _ _ :: _, _, _, _, _, _, _, _, h => by simp [sameCs] at h
  | .im _ :: _, _, _, _, _, _, _, _, h => by simp [sameCs] at h
  | .anyb :: _, _, _, _, _, _, _, _, h => by simp [sameCs] at h
  | .fn _ _ _ :: _, _, _, _, _, _, _, _, h => by simp [sameCs] at h
  | .nilf :: _, _, _, _, _, _, _, _, h => by simp [sameCs] at h
  | .raw _ :: _, _, _, _, _, _, _, _, h => by simp [sameCs] at h
  | .undef :: _, _, _, _, _, _, _, _, h => by simp [sameCs] at h
  | .int _ _ :: _, .str _ :: _, _, _, _, _, _, _, h => by simp [sameCs] at h
  | .int _ _ :: _, .agg _ :: _, _, _, _, _, _, _, h => by simp [sameCs] at h
  | .int _ _ :: _, .tup _ :: _, _, _, _, _, _, _, h => by simp [sameCs] at h
  | .int _ _ :: _, .nilp :: _, _, _, _, _, _, _, h => by simp [sameCs] at h
  | .int _ _ :: _, .ptr _ _ _ _ :: _, _, _, _, _, _, _, h => by simp [sameCs] at h
  | .int _ _ :: _, .pim _ _ :: _, _, _, _, _, _, _, h => by simp [sameCs] at h
  | .int _ _ :: _, .sl _ _ _ _ :: _, _, _, _, _, _, _, h => by simp [sameCs] at h
  | .int _ _ :: _, .il _ _ :: _, _, _, _, _, _, _, h => by simp [sameCs] at h
  | .int _ _ :: _, .mp _ _ :: _, _, _, _, _, _, _, h => by simp [sameCs] at h
  | .int _ _ :: _, .im _ :: _, _, _, _, _, _, _, h => by simp [sameCs] at h
  | .int _ _ :: _, .anyb :: _, _, _, _, _, _, _, h => by simp [sameCs] at h
  | .int _ _ :: _, .fn _ _ _ :: _, _, _, _, _, _, _, h => by simp [sameCs] at h
  | .int _ _ :: _, .nilf :: _, _, _, _, _, _, _, h => by simp [sameCs] at h
  | .int _ _ :: _, .raw _ :: _, _, _, _, _, _, _, h => by simp [sameCs] at h
  | .int _ _ :: _, .undef :: _, _, _, _, _, _, _, h => by simp [sameCs] at h
  | .bool _ :: _, .str _ :: _, _, _, _, _, _, _, h => by simp [sameCs] at h
  | .bool _ :: _, .agg _ :: _, _, _, _, _, _, _, h => by simp [sameCs] at h
  | .bool _ :: _, .tup _ :: _, _, _, _, _, _, _, h => by simp [sameCs] at h
  | .bool _ :: _, .nilp :: _, _, _, _, _, _, _, h => by simp [sameCs] at h
  | .bool _ :: _, .ptr _ _ _ _ :: _, _, _, _, _, _, _, h => by simp [sameCs] at h
  | .bool _ :: _, .pim _ _ :: _, _, _, _, _, _, _, h => by simp [sameCs] at h
  | .bool _ :: _, .sl _ _ _ _ :: _, _, _, _, _, _, _, h => by simp [sameCs] at h
  | .bool _ :: _, .il _ _ :: _, _, _, _, _, _, _, h => by simp [sameCs] at h
  | .bool _ :: _, .mp _ _ :: _, _, _, _, _, _, _, h => by simp [sameCs] at h
  | .bool _ :: _, .im _ :: _, _, _, _, _, _, _, h => by simp [sameCs] at h
  | .bool _ :: _, .anyb :: _, _, _, _, _, _, _, h => by simp [sameCs] at h
  | .bool _ :: _, .fn _ _ _ :: _, _, _, _, _, _, _, h => by simp [sameCs] at h
  | .bool _ :: _, .nilf :: _, _, _, _, _, _, _, h => by simp [sameCs] at h
  | .bool _ :: _, .raw _ :: _, _, _, _, _, _, _, h => by simp [sameCs] at h
  | .bool _ :: _, .undef :: _, _, _, _, _, _, _, h => by simp [sameCs] at h

theorem same_stays {k x : AVal} {vk vx : Value} (hk : VRep C k vk) (hx : VRep C x vx) (h : sameA k x = true) (w : World) : (Instr.keyThatStays vx vk).run P w = .ok vk w := by
  have hs : Instr.sameBits 10000 vx vk = true := by
    cases hk <;> simp only [sameA, Bool.false_eq_true] at h
    case int j a =>
      cases hx <;> simp only [Bool.false_eq_true] at h
      case int k b =>
        simp only [Bool.and_eq_true, beq_iff_eq] at h
        obtain ⟨rfl, rfl⟩ := h
        simp [Instr.sameBits]
    case bool a =>
      cases hx <;> simp only [Bool.false_eq_true] at h
      case bool b =>
        simp only [beq_iff_eq] at h
        subst h
        simp [Instr.sameBits]
    case agg as us h1 r1 =>
      cases hx <;> simp only [Bool.false_eq_true] at h
      case agg bs vs h2 r2 =>
        obtain ⟨h3, h4⟩ := sameCs_bits as bs us.toList vs.toList (by simpa using h1) (by simpa using h2) (fun i a v ha hv => r1 i a v ha (by rw [← Array.getElem?_toList]; exact hv)) (fun i a v ha hv => r2 i a v ha (by rw [← Array.getElem?_toList]; exact hv)) h
        have h5 : us = vs := Array.ext' h3
        subst h5
        have := h4 9998
        show Instr.sameBits (9999 + 1) _ _ = true
        simp only [Instr.sameBits, beq_self_eq_true, Bool.true_and]
        exact this
  unfold Instr.keyThatStays
  rw [if_pos hs]
  rfl

theorem mapUpdate_sound (hv : Valid C) {nx G : Nat} {t : TypeId} {m k v : AVal} {vm vk vv : Value} (hm : VRep C m vm) (hk : VRep C k vk) (hvv : VRep C v vv) {d : Delta} (h : (mapUpdateR P nx G t m k v).run C.h = some d) :
    OutU C G d ((Instr.mapUpdate t vm vk vv).run P C.w) := by
  unfold mapUpdateR at h
  replace h := rd_opt h; obtain ⟨ti, hti, h⟩ := h
  obtain ⟨inf, dd, z, hinf, hdd, hz, rfl⟩ := tiOf_some hti
  simp only at h
  split at h
  case h_2 => exact (rd_fail h).elim
  rename_i kt e b g hkk
  have hu := tk_map hkk
  subst hu
  replace h := rd_ifn h; obtain ⟨hkey, h⟩ := h
  simp only [Bool.not_eq_false] at hkey
  have hck := fun e w => keyT_sound (P := P) eqD kt k vk hk hkey 10000 (by decide) e w
  have htk : ∃ tk, tiOf P kt = some tk := by
    cases hq : tiOf P kt with
    | some tk => exact ⟨tk, rfl⟩
    | none =>
      have : eqD = 5 + 1 := rfl
      rw [this] at hkey
      simp [keyT, hq] at hkey
  obtain ⟨tk, htk⟩ := htk
  replace h := rd_map h; obtain ⟨es, ver, hb, h⟩ := h
  replace h := rd_opt h; obtain ⟨es', hes, h⟩ := h
  have hd := rd_ret h
  obtain ⟨B, ents, clock, rfl, hi, hat, hl, hrep, hborn, hclk⟩ := mp_live hm hv hb
  obtain ⟨o, ho, hc⟩ := upsert_I hes
  obtain ⟨rc, hrc, h1, h2⟩ := findKey_sound htk hk C.w es ents.toList (by simpa using hl) (fun i k v e hi he => (hrep i k v e hi (by rw [← Array.getElem?_toList]; exact he)).1) ho
  have hget : (getObj B).run P C.w = .ok (.map ents clock) C.w := by simp [getObj, Sem.run, hat]
  rcases hc with ⟨rfl, rfl⟩ | ⟨i, x, u, rfl, hix, hsame, rfl⟩
  · have := h1 rfl
    subst this
    have hR : EntRep C (es ++ [(k, v)]) (ents.push { key := vk, val := vv, born := clock }) (clock + 1) := by
      refine ⟨by simp [hl], fun i k' v' e he1 he2 => ?_, fun i j e f h3 h4 h5 => ?_, fun i e h3 => ?_⟩
      · rw [Array.getElem?_push] at he2
        by_cases hii : i = ents.size
        · rw [if_pos hii] at he2
          cases he2
          rw [hii, hl, List.getElem?_append_right (Nat.le_refl _)] at he1
          simp at he1
          obtain ⟨rfl, rfl⟩ := he1
          exact ⟨hk, hvv⟩
        · rw [if_neg hii] at he2
          have hlt : i < ents.size := (Array.getElem?_eq_some_iff.1 he2).1
          rw [List.getElem?_append_left (by omega)] at he1
          exact hrep i k' v' e he1 he2
      · rw [Array.getElem?_push] at h3 h4
        by_cases hii : i = ents.size <;> by_cases hjj : j = ents.size
        · omega
        · rw [if_pos hii] at h3; rw [if_neg hjj] at h4
          cases h3
          have := hclk j f h4
          simp only at h5
          omega
        · rw [if_neg hii] at h3; rw [if_pos hjj] at h4
          cases h4
          have := hclk i e h3
          simp only at h5
          omega
        · rw [if_neg hii] at h3; rw [if_neg hjj] at h4
          exact hborn i j e f h3 h4 h5
      · rw [Array.getElem?_push] at h3
        by_cases hii : i = ents.size
        · rw [if_pos hii] at h3; cases h3; exact Nat.lt_succ_self _
        · rw [if_neg hii] at h3
          have := hclk i e h3
          omega
    obtain ⟨C', hw, hstp⟩ := map_out hv hb hi hat hd hR
    refine ⟨C', ?_, by rw [hd], hstp⟩
    rw [hw]
    simp only [Instr.mapUpdate, Sem.run_bind, run_underlying hdd, Result.andThen_ok, hget, hck, hrc, setObj_heap C.w B _ ents clock hat]
  · obtain ⟨e, he, hr⟩ := h2 i rfl
    subst hr
    rw [Array.getElem?_toList] at he
    have hil : i < es.length := (List.getElem?_eq_some_iff.1 hix).1
    have hie : i < ents.size := by omega
    have hstay := same_stays (P := P) hk (hrep i x u e hix he).1 hsame C.w
    have hmod : ents.modify i (fun e => { e with key := vk, val := vv }) = ents.set i { e with key := vk, val := vv } hie := by
      apply Array.ext_getElem?
      intro j
      rw [Array.getElem?_modify, Array.getElem?_set]
      by_cases hij : i = j
      · subst hij
        rw [if_pos rfl, if_pos rfl, he]
        rfl
      · rw [if_neg hij, if_neg hij]
    have hR : EntRep C (es.set i (k, v)) (ents.set i { e with key := vk, val := vv } hie) clock := by
      refine ⟨by simp [hl], fun j k' v' f he1 he2 => ?_, fun j j' f f' h3 h4 h5 => ?_, fun j f h3 => ?_⟩
      · rw [Array.getElem?_set] at he2
        by_cases hij : i = j
        · subst hij
          rw [if_pos rfl] at he2
          rw [List.getElem?_set_self hil] at he1
          cases he1; cases he2
          exact ⟨hk, hvv⟩
        · rw [if_neg hij] at he2
          rw [List.getElem?_set_ne hij] at he1
          exact hrep j k' v' f he1 he2
      · have key : ∀ (j : Nat) (f : MapEntry), (ents.set i { e with key := vk, val := vv } hie)[j]? = some f → ∃ f0 : MapEntry, ents[j]? = some f0 ∧ f0.born = f.born := by
          intro j f hf
          rw [Array.getElem?_set] at hf
          by_cases hij : i = j
          · subst hij
            rw [if_pos rfl] at hf
            cases hf
            exact ⟨e, he, rfl⟩
          · rw [if_neg hij] at hf
            exact ⟨f, hf, rfl⟩
        obtain ⟨a, ha, ha'⟩ := key j f h3
        obtain ⟨b, hb, hb'⟩ := key j' f' h4
        exact hborn j j' a b ha hb (by rw [ha', hb', h5])
      · rw [Array.getElem?_set] at h3
        by_cases hij : i = j
        · rw [if_pos hij] at h3
          cases h3
          exact hclk i e he
        · rw [if_neg hij] at h3
          exact hclk j f h3
    obtain ⟨C', hw, hstp⟩ := map_out hv hb hi hat hd hR
    refine ⟨C', ?_, by rw [hd], hstp⟩
    rw [hw]
    simp only [Instr.mapUpdate, Sem.run_bind, run_underlying hdd, Result.andThen_ok, hget, hck, hrc, he, Option.map_some, Option.getD_some, hstay, hmod, setObj_heap C.w B _ ents clock hat]

theorem delete_sound (hv : Valid C) {nx G : Nat} {t : TypeId} {m k : AVal} {vm vk : Value} (hm : VRep C m vm) (hk : VRep C k vk) {ts : Array TypeId} (hts : ts[0]? = some t) {ty : TypeId} {d : Delta} (h : (deleteR P nx G t m k).run C.h = some d) :
    OutV C G d ((Builtin.delete_ ts ty #[vm, vk]).run P C.w) := by
  unfold deleteR at h
  replace h := rd_opt h; obtain ⟨ti, hti, h⟩ := h
  obtain ⟨inf, dd, z, hinf, hdd, hz, rfl⟩ := tiOf_some hti
  simp only at h
  split at h
  case h_2 => exact (rd_fail h).elim
  rename_i kt e b g hkk
  have hu := tk_map hkk
  subst hu
  replace h := rd_ifn h; obtain ⟨hkey, h⟩ := h
  simp only [Bool.not_eq_false] at hkey
  have hck := fun e w => keyT_sound (P := P) eqD kt k vk hk hkey 10000 (by decide) e w
  have htk : ∃ tk, tiOf P kt = some tk := by
    cases hq : tiOf P kt with
    | some tk => exact ⟨tk, rfl⟩
    | none =>
      have : eqD = 5 + 1 := rfl
      rw [this] at hkey
      simp [keyT, hq] at hkey
  obtain ⟨tk, htk⟩ := htk
  replace h := rd_map h; obtain ⟨es, ver, hb, h⟩ := h
  replace h := rd_opt h; obtain ⟨es', hes, h⟩ := h
  have hd := rd_ret h
  obtain ⟨B, ents, clock, rfl, hi, hat, hl, hrep, hborn, hclk⟩ := mp_live hm hv hb
  obtain ⟨o, ho, hc⟩ := erase_I hes
  obtain ⟨rc, hrc, h1, h2⟩ := findKey_sound htk hk C.w es ents.toList (by simpa using hl) (fun i k v e hi he => (hrep i k v e hi (by rw [← Array.getElem?_toList]; exact he)).1) ho
  have hget : (getObj B).run P C.w = .ok (.map ents clock) C.w := by simp [getObj, Sem.run, hat]
  rcases hc with ⟨rfl, rfl⟩ | ⟨i, rfl, hil, rfl⟩
  · have := h1 rfl
    subst this
    obtain ⟨C', hw, hstp⟩ := map_out hv hb hi hat hd ⟨hl, hrep, hborn, hclk⟩
    refine ⟨C', .tuple #[], ?_, by rw [hd]; exact rep_undef C', hstp⟩
    rw [hw]
    simp only [Builtin.delete_, hts, List.getElem?_toArray, List.getElem?_cons_zero, List.getElem?_cons_succ, Sem.run_bind, run_underlying hdd, Result.andThen_ok, hget, hck, hrc, setObj_heap C.w B _ ents clock hat, Sem.run_pure]
  · obtain ⟨e, he, hr⟩ := h2 i rfl
    subst hr
    have hie : i < ents.size := by omega
    have hget? : ∀ j, (ents.eraseIdxIfInBounds i)[j]? = if j < i then ents[j]? else ents[j + 1]? := by
      intro j
      rw [Array.eraseIdxIfInBounds, dif_pos hie, Array.getElem?_eraseIdx]
    have hR : EntRep C (es.eraseIdx i) (ents.eraseIdxIfInBounds i) clock := by
      refine ⟨?_, fun j k' v' f he1 he2 => ?_, fun j j' f f' h3 h4 h5 => ?_, fun j f h3 => ?_⟩
      · rw [Array.eraseIdxIfInBounds, dif_pos hie]
        simp [List.length_eraseIdx, hil, hl]
      · rw [hget?] at he2
        rw [List.getElem?_eraseIdx] at he1
        split at he1
        · rename_i hlt
          rw [if_pos hlt] at he2
          exact hrep j k' v' f he1 he2
        · rename_i hlt
          rw [if_neg hlt] at he2
          exact hrep (j + 1) k' v' f he1 he2
      · rw [hget?] at h3 h4
        split at h3 <;> split at h4
        · exact hborn _ _ f f' h3 h4 h5
        · have := hborn _ _ f f' h3 h4 h5; omega
        · have := hborn _ _ f f' h3 h4 h5; omega
        · have := hborn _ _ f f' h3 h4 h5; omega
      · rw [hget?] at h3
        split at h3
        · exact hclk _ f h3
        · exact hclk _ f h3
    obtain ⟨C', hw, hstp⟩ := map_out hv hb hi hat hd hR
    refine ⟨C', .tuple #[], ?_, by rw [hd]; exact rep_undef C', hstp⟩
    rw [hw]
    simp only [Builtin.delete_, hts, List.getElem?_toArray, List.getElem?_cons_zero, List.getElem?_cons_succ, Sem.run_bind, run_underlying hdd, Result.andThen_ok, hget, hck, hrc, setObj_heap C.w B _ ents clock hat, Sem.run_pure]

theorem clear_sound (hv : Valid C) {nx G : Nat} {t : TypeId} {m : AVal} {vm : Value} (hm : VRep C m vm) {ts : Array TypeId} (hts : ts[0]? = some t) {ty : TypeId} {d : Delta} (h : (clearR P nx G t m).run C.h = some d) :
    OutV C G d ((Builtin.clear_ ts ty #[vm]).run P C.w) := by
  unfold clearR at h
  replace h := rd_opt h; obtain ⟨ti, hti, h⟩ := h
  obtain ⟨inf, dd, z, hinf, hdd, hz, rfl⟩ := tiOf_some hti
  simp only at h
  split at h
  case h_2 => exact (rd_fail h).elim
  rename_i kt e b g hkk
  have hu := tk_map hkk
  subst hu
  replace h := rd_map h; obtain ⟨es, ver, hb, h⟩ := h
  have hd := rd_ret h
  obtain ⟨B, ents, clock, rfl, hi, hat, hl, hrep, hborn, hclk⟩ := mp_live hm hv hb
  have hget : (getObj B).run P C.w = .ok (.map ents clock) C.w := by simp [getObj, Sem.run, hat]
  obtain ⟨C', hw, hstp⟩ := map_out (ents' := #[]) (clock' := clock) hv hb hi hat hd ⟨rfl, by simp, by simp, by simp⟩
  refine ⟨C', .tuple #[], ?_, by rw [hd]; exact rep_undef C', hstp⟩
  rw [hw]
  simp only [Builtin.clear_, hts, List.getElem?_toArray, List.getElem?_cons_zero, Sem.run_bind, run_underlying hdd, Result.andThen_ok, hget, setObj_heap C.w B _ ents clock hat, Sem.run_pure]

end Go.AI

namespace Go.AI
variable {P : Program} {C : Cfg}

/-- What a slice holds, cell by cell. -/
structure El (C : Cfg) (v : Value) (xs : List (List AVal)) (sz : Nat) (p : Option Addr) (cap : Nat) (f : Nat → Value) : Prop where
  eq : v = .slice p xs.length cap
  le : xs.length ≤ cap
  size : ∀ e ∈ xs, e.length = sz
  cell : xs ≠ [] → ∃ B o, p = some ⟨B, o, none⟩ ∧ ∀ q, q < xs.length * sz → C.w.cell? ⟨B, o + q, none⟩ = some (f q)
  rep : ∀ i j e a, xs[i]? = some e → e[j]? = some a → VRep C a (f (i * sz + j))

theorem divmod {sz n q : Nat} (h : q < n * sz) : q / sz < n ∧ q % sz < sz ∧ q = q / sz * sz + q % sz := by
  have hs : 0 < sz := by
    rcases Nat.eq_zero_or_pos sz with h0 | h0
    · subst h0; simp at h
    · exact h0
  refine ⟨Nat.div_lt_of_lt_mul (by rw [Nat.mul_comm]; exact h), Nat.mod_lt _ hs, ?_⟩
  rw [Nat.mul_comm]; exact (Nat.div_add_mod q sz).symm

theorem il_el {es : List (List AVal)} {ex : Bool} {v : Value} (h : VRep C (.il es ex) v) : ∃ sz p cap f, El C v es sz p cap f ∧ (ex = true → cap = es.length) ∧ cap ≤ maxLen := by
  cases h with
  | il es ex p cap B o sz vs hcap hex hmax hp hsz hvs hc =>
    refine ⟨sz, p, cap, fun q => vs (q / sz) (q % sz), ⟨rfl, hcap, hsz, fun hne => ⟨B, o, hp hne, fun q hq => ?_⟩, fun i j e a hi hj => ?_⟩, hex, hmax⟩
    · obtain ⟨h1, h2, h3⟩ := divmod hq
      have he : es[q / sz]? = some es[q / sz] := List.getElem?_eq_getElem h1
      have hl : es[q / sz].length = sz := hsz _ (List.getElem_mem h1)
      have ha : es[q / sz][q % sz]? = some (es[q / sz][q % sz]'(by omega)) := List.getElem?_eq_getElem (by omega)
      have := (hc _ _ _ _ he ha).1
      rw [← h3] at this
      exact this
    · have hj' : j < sz := by rw [← hsz e (List.mem_of_getElem? hi)]; exact (List.getElem?_eq_some_iff.1 hj).1
      have h1 : (i * sz + j) / sz = i := by rw [Nat.mul_comm, Nat.mul_add_div (by omega), Nat.div_eq_of_lt hj', Nat.add_zero]
      have h2 : (i * sz + j) % sz = j := by rw [Nat.mul_comm, Nat.mul_add_mod, Nat.mod_eq_of_lt hj']
      simp only [h1, h2]
      exact hvs i j e a hi hj

theorem sl_el (hv : Valid C) {b g lo n : Nat} {v : Value} (h : VRep C (.sl b g lo n) v) {sz : Nat} {es : List (List AVal)} {wr : Bool} (hb : C.h b = some (.row sz es g wr)) :
    ∃ p cap f, El C v ((es.drop lo).take n) sz p cap f := by
  obtain ⟨p, cap, rfl, hle, hk, hcase⟩ := sl_live h hb
  have hlen : ((es.drop lo).take n).length = n := by simp; omega
  have hsz := (hv.obj b _ hb).2.1
  have hsz' : ∀ e ∈ (es.drop lo).take n, e.length = sz := fun e he => hsz e (List.mem_of_mem_drop (List.mem_of_mem_take he))
  rcases hcase with ⟨rfl, rfl⟩ | ⟨B, s, T, N, hι, rfl, hsh, hcap, hN, hmax⟩
  · exact ⟨p, 0, fun _ => undef, ⟨by rw [hlen], by rw [hlen]; exact Nat.le_refl _, hsz', fun hne => absurd (by simp) hne, by simp⟩⟩
  · obtain ⟨c, T', hat, hle', _, hcell⟩ := row_cells hv hb hι
    have hmul : (lo + n) * sz ≤ es.length * sz := Nat.mul_le_mul_right _ hle
    rw [Nat.add_mul] at hmul
    refine ⟨some ⟨B, s + lo * sz, none⟩, cap, fun q => c.getD (s + lo * sz + q) undef, ⟨by rw [hlen], by rw [hlen]; exact hcap, hsz', fun _ => ⟨B, s + lo * sz, rfl, fun q hq => ?_⟩, fun i j e a hi hj => ?_⟩⟩
    · rw [hlen] at hq
      rw [cell_of_row _ _ _ _ _ _ hat]
      have : s + lo * sz + q < c.size := by omega
      simp [Array.getD_eq_getD_getElem?, Array.getElem?_eq_getElem this]
    · have hin : i < n := by have := (List.getElem?_eq_some_iff.1 hi).1; omega
      rw [List.getElem?_take_of_lt hin, List.getElem?_drop] at hi
      obtain ⟨v, h1, h2⟩ := hcell _ _ e a hi hj
      rw [show s + lo * sz + (i * sz + j) = s + ((lo + i) * sz + j) by rw [Nat.add_mul]; omega]
      simp [Array.getD_eq_getD_getElem?, h1, h2]

/-- The cells of a slice, as a list. -/
def newsOf (f : Nat → Value) (n : Nat) : List Value := (List.range n).map f

theorem news_get {f : Nat → Value} {n q : Nat} (h : q < n) : (newsOf f n)[q]? = some (f q) := by simp [newsOf, h]
theorem news_len (f : Nat → Value) (n : Nat) : (newsOf f n).length = n := by simp [newsOf]

theorem El.src {v : Value} {xs : List (List AVal)} {sz : Nat} {p : Option Addr} {cap : Nat} {f : Nat → Value} (h : El C v xs sz p cap f) {tx e' : TypeId} (hk : P.underlying tx = some (.slice e')) (hsc : ∀ e ∈ xs, ∀ a ∈ e, a.sc = true) :
    Src P sz tx v xs.length (newsOf f (xs.length * sz)) C.w := by
  obtain ⟨rfl, hle, hsz, hcell, hrep⟩ := h
  have hone : ∀ u ∈ newsOf f (xs.length * sz), u.oneCell' = true := by
    intro u hu
    simp only [newsOf, List.mem_map, List.mem_range] at hu
    obtain ⟨q, hq, rfl⟩ := hu
    obtain ⟨h1, h2, h3⟩ := divmod hq
    have he : xs[q / sz]? = some xs[q / sz] := List.getElem?_eq_getElem h1
    have hl : xs[q / sz].length = sz := hsz _ (List.getElem_mem h1)
    have ha : xs[q / sz][q % sz]? = some (xs[q / sz][q % sz]'(by omega)) := List.getElem?_eq_getElem (by omega)
    have := hrep _ _ _ _ he ha
    rw [← h3] at this
    exact sc_one this (hsc _ (List.getElem_mem h1) _ (List.getElem_mem _))
  by_cases hne : xs = []
  · subst hne
    simp only [List.length_nil, Nat.zero_mul]
    cases p with
    | none => exact Src.ofNil C.w hk cap
    | some a => exact Src.ofSlice C.w hk a 0 cap [] (by simp) (by simp) (by simp)
  · obtain ⟨B, o, rfl, hc⟩ := hcell hne
    refine Src.ofSlice C.w hk ⟨B, o, none⟩ xs.length cap _ (news_len _ _) (fun j u hj => ?_) hone
    have hj' : j < xs.length * sz := by rw [← news_len f (xs.length * sz)]; exact (List.getElem?_eq_some_iff.1 hj).1
    rw [news_get hj'] at hj
    cases hj
    rw [Addr.add_lit]
    exact hc j hj'

/-- The cells of a slice that is grown. -/
theorem El.first {v : Value} {xs : List (List AVal)} {sz : Nat} {p : Option Addr} {cap : Nat} {f : Nat → Value} (h : El C v xs sz p cap f) (w : World) (hw : w.heap = C.w.heap) :
    (Builtin.firstCells sz xs.length (.slice p xs.length cap)).run P w = .ok (newsOf f (xs.length * sz)).toArray w := by
  by_cases hne : xs = []
  · subst hne
    simp only [List.length_nil, Nat.zero_mul]
    cases p with
    | none => simp [Builtin.firstCells, newsOf]
    | some a => exact run_firstCells_some w sz 0 a 0 cap [] (by simp) (by simp)
  · obtain ⟨B, o, rfl, hc⟩ := h.cell hne
    refine run_firstCells_some w sz xs.length ⟨B, o, none⟩ xs.length cap _ (news_len _ _) (fun j u hj => ?_)
    have hj' : j < xs.length * sz := by rw [← news_len f (xs.length * sz)]; exact (List.getElem?_eq_some_iff.1 hj).1
    rw [news_get hj'] at hj
    cases hj
    rw [Addr.add_lit]
    have := hc j hj'
    simp only [World.cell?, hw] at this ⊢
    exact this

/-- Two runs of cells, one behind the other. -/
theorem el_append {v v' : Value} {xs ys : List (List AVal)} {sz : Nat} {p p' : Option Addr} {cap cap' : Nat} {f f' : Nat → Value} (h : El C v xs sz p cap f) (h' : El C v' ys sz p' cap' f') (tail : Array Value) :
    ∀ i j e a, (xs ++ ys)[i]? = some e → e[j]? = some a → ∃ u, ((newsOf f (xs.length * sz) ++ newsOf f' (ys.length * sz)).toArray ++ tail)[i * sz + j]? = some u ∧ VRep C a u := by
  intro i j e a hi hj
  have hj' : j < sz := by
    have hm := List.mem_of_getElem? hi
    rcases List.mem_append.1 hm with hm | hm
    · rw [← h.size e hm]; exact (List.getElem?_eq_some_iff.1 hj).1
    · rw [← h'.size e hm]; exact (List.getElem?_eq_some_iff.1 hj).1
  have hil : i < xs.length + ys.length := by have := (List.getElem?_eq_some_iff.1 hi).1; simpa using this
  have htot : i * sz + j < (newsOf f (xs.length * sz) ++ newsOf f' (ys.length * sz)).toArray.size := by
    have : i * sz + sz ≤ (xs.length + ys.length) * sz := by rw [← Nat.succ_mul]; exact Nat.mul_le_mul_right _ hil
    rw [Nat.add_mul] at this
    simp only [List.size_toArray, List.length_append, news_len]
    omega
  rw [Array.getElem?_append_left htot, List.getElem?_toArray]
  by_cases hx : i < xs.length
  · rw [List.getElem?_append_left hx] at hi
    have hq : i * sz + j < xs.length * sz := by
      have : i * sz + sz ≤ xs.length * sz := by rw [← Nat.succ_mul]; exact Nat.mul_le_mul_right _ hx
      omega
    exact ⟨f (i * sz + j), by rw [List.getElem?_append_left (by rw [news_len]; exact hq), news_get hq], h.rep i j e a hi hj⟩
  · rw [List.getElem?_append_right (by omega)] at hi
    have hy : i - xs.length < ys.length := by omega
    have hmul : i * sz = xs.length * sz + (i - xs.length) * sz := by rw [← Nat.add_mul]; congr 1; omega
    have hq : (i - xs.length) * sz + j < ys.length * sz := by
      have : (i - xs.length) * sz + sz ≤ ys.length * sz := by rw [← Nat.succ_mul]; exact Nat.mul_le_mul_right _ hy
      omega
    refine ⟨f' ((i - xs.length) * sz + j), ?_, h'.rep _ j e a hi hj⟩
    rw [List.getElem?_append_right (by rw [news_len]; omega), news_len, show i * sz + j - xs.length * sz = (i - xs.length) * sz + j by omega, news_get hq]

theorem room_lens {n bytes : Nat} (h : n * max 1 bytes ≤ room) : n ≤ 140737488355328 ∧ n * bytes ≤ 140737488355328 := by
  unfold room at h
  exact ⟨Nat.le_trans (Nat.le_mul_of_pos_right _ (by omega)) h, Nat.le_trans (Nat.mul_le_mul_left _ (by omega)) h⟩

/-- What the new slice is when a new row had to be made. -/
theorem grow_out (hv : Valid C) {nx b G : Nat} (hf : ¬ C.K G) {t tx e ty : TypeId} {ie : TypeInfo} {ze : Value} (ht : P.underlying t = some (.slice e)) (hie : P.info? e = some ie) (hze : ie.zero = some ze) (hzl : (ofVal ze).cells.length = ie.size)
    {vs vx : Value} {os xs : List (List AVal)} {p p' : Option Addr} {cap cap' : Nat} {f f' : Nat → Value} (ho : El C vs os ie.size p cap f) (hx : El C vx xs ie.size p' cap' f') (hsrc : Src P ie.size tx vx xs.length (newsOf f' (xs.length * ie.size)) C.w)
    (hg : cap < os.length + xs.length) (hroom : (os.length + xs.length) * max 1 ie.bytes ≤ room) (wr : Bool) {d : Delta} (hd : d = ⟨.sl b G 0 (os.length + xs.length), [(b, some (.row ie.size (os ++ xs) G wr))], nx, G + 1⟩) :
    OutV C G d ((Builtin.append_ #[t, tx] ty #[vs, vx]).run P C.w) := by
  obtain ⟨hr1, hr2⟩ := room_lens hroom
  have hrun := run_append_grow_src (P := P) C.w t tx ty e ie ze ht hie hze p os.length cap _ (ho.first C.w.drew rfl) vx xs.length _ hsrc hg (by omega) (growslice_fits hg hr2)
  rw [← ho.eq] at hrun
  have hcap := grownCap_ge C.w (os.length + xs.length) cap e
  have hmax := grownCap_le_maxLen C.w (os.length + xs.length) cap e (by unfold maxLen; omega)
  have hsize : ((newsOf f (os.length * ie.size) ++ newsOf f' (xs.length * ie.size)).toArray ++ Builtin.zeroCells ze.cells (grownCap C.w (os.length + xs.length) cap e - (os.length + xs.length))).size = grownCap C.w (os.length + xs.length) cap e * ie.size := by
    rw [ofVal_cells] at hzl
    simp only [Array.size_append, List.size_toArray, List.length_append, news_len, size_zeroCells, hzl, ← Nat.add_mul]
    congr 1
    omega
  obtain ⟨C', h1, h2, h3, h4, h5, h6⟩ := newRow_stp (d := d) hv b (w1 := C.w.drew) rfl rfl rfl rfl _ e ie.size (os ++ xs) wr hf (by rw [hd]) (by rw [hd])
    (fun y hy => (List.mem_append.1 hy).elim (ho.size y) (hx.size y)) (by rw [hsize, List.length_append]; exact Nat.mul_le_mul_right _ hcap) (el_append ho hx _)
  refine ⟨C', _, by rw [h1]; exact hrun, ?_, h2⟩
  rw [hd]
  exact sl_new h3 h4 h5 h6 (by simp) hcap (by rw [hsize]; exact Nat.le_refl _) hmax

theorem app_sound (hv : Valid C) {nx G : Nat} (hf : ¬ C.K G) {t tx e e' ty : TypeId} {ei : TI} (ht : P.underlying t = some (.slice e)) (htx : P.underlying tx = some (.slice e')) (hei : tiOf P e = some ei)
    {s : AVal} {vs vx : Value} (hs : VRep C s vs) {xs : List (List AVal)} {p' : Option Addr} {cap' sz' : Nat} {f' : Nat → Value} (hx : El C vx xs sz' p' cap' f') {d : Delta} (h : (appR nx G ei s xs).run C.h = some d) :
    OutV C G d ((Builtin.append_ #[t, tx] ty #[vs, vx]).run P C.w) := by
  obtain ⟨ie, de, ze, hie, hde, hze, rfl⟩ := tiOf_some hei
  unfold appR at h
  replace h := rd_ifn h; obtain ⟨hcond, h⟩ := h
  simp only [not_or, Bool.not_eq_false, ne_eq, Decidable.not_not] at hcond
  obtain ⟨hs0, hok, hzl⟩ := hcond
  have hx' : El C vx xs ie.size p' cap' f' := by
    by_cases hne : xs = []
    · subst hne
      exact ⟨hx.eq, hx.le, by simp, fun h => absurd rfl h, by simp⟩
    · obtain ⟨y, hy⟩ := List.exists_mem_of_ne_nil xs hne
      have : sz' = ie.size := by rw [← hx.size y hy, okEs_mem hok y hy]
      rw [← this]; exact hx
  have hsrc := hx'.src (P := P) htx (okEs_sc hok)
  cases s with
  | il es ex =>
    simp only at h
    replace h := rd_if h; obtain ⟨⟨rfl, hne, hokes, hroom⟩, h⟩ := h
    have hd := rd_ret h
    obtain ⟨sz, p, cap, f, hel, hex, hmax⟩ := il_el hs
    have hcap := hex rfl
    have hel' : El C vs es ie.size p cap f := by
      by_cases hes : es = []
      · subst hes
        exact ⟨hel.eq, hel.le, by simp, fun h => absurd rfl h, by simp⟩
      · obtain ⟨y, hy⟩ := List.exists_mem_of_ne_nil es hes
        have : sz = ie.size := by rw [← hel.size y hy, okEs_mem hokes y hy]
        rw [← this]; exact hel
    by_cases hxs : xs = []
    · have hes : es = [] := hne.resolve_right (fun h => h hxs)
      subst hes; subst hxs
      have hc0 : cap = 0 := hcap
      subst hc0
      have hc := chg_virtual (C := C) nx ie.size true hf
      have hu : d.upd = [(nx, some (.row ie.size [] G true))] := by rw [hd]; rfl
      have hG : d.G = G + 1 := by rw [hd]
      rw [← hG] at hc
      refine ⟨C.chg nx (some (.row ie.size [] G true)) none C.w G d.G, vs, ?_, ?_, Stp.chg hv hc (by omega) hu fun hg y hy => ?_⟩
      · have heq := hel.eq
        simp only [List.length_nil] at heq
        subst heq
        have hl := hsrc.len C.w
        have hcl := hsrc.cells
        simp only [List.length_nil, Nat.zero_mul, newsOf, List.range_zero, List.map_nil] at hl hcl
        have hk2 : (match (TypeDesc.slice e') with | .int _ => true | _ => false) = false := rfl
        cases p with
        | none => simp [Builtin.append_, run_underlying ht, run_underlying htx, run_size hie, hl, hcl, Cfg.chg]
        | some a => simp [Builtin.append_, run_underlying ht, run_underlying htx, run_size hie, hl, hcl, storeCells, Cfg.chg]
      · have hdv : d.v = .sl nx G 0 0 := by rw [hd]; rfl
        rw [hdv, hel.eq]
        refine .sl nx G 0 0 p 0 0 (.inr ⟨Nat.le_refl _, by omega⟩) fun sz' es' wr' hb => ?_
        exact ⟨rfl, by omega, .inl ⟨rfl, rfl⟩⟩
      · cases hy
        exact ⟨.inr ⟨Nat.le_refl _, by omega⟩, by simp, .inl ⟨by simp [Cfg.chg, setAt], rfl⟩⟩
    · have hlx : 0 < xs.length := List.length_pos_iff.2 hxs
      exact grow_out hv hf ht hie hze hzl hel' hx' hsrc (by omega) hroom true hd
  | sl b g lo n =>
    replace h := rd_row h; obtain ⟨sz, es, wr, hb, h⟩ := h
    replace h := rd_if h; obtain ⟨⟨hend, hsz, hroom⟩, h⟩ := h
    have hd := rd_ret h
    simp only at hsz hroom
    subst hsz
    obtain ⟨p, cap, f, hel⟩ := sl_el hv hs hb
    obtain ⟨p0, cap0, heq, hle, hkk, hcase⟩ := sl_live hs hb
    have hlen : ((es.drop lo).take n).length = n := by simp; omega
    have hpp : p = p0 ∧ cap = cap0 := by
      have h1 := hel.eq
      rw [heq] at h1
      obtain ⟨e1, _, e2⟩ := Value.slice.inj h1
      exact ⟨e1.symm, e2.symm⟩
    obtain ⟨rfl, rfl⟩ := hpp
    have hne1 : ¬ C.K G := hf
    by_cases hfits : n + xs.length ≤ cap
    · -- there is room
      rcases hcase with ⟨hn0, hc0⟩ | ⟨B, s, T, N, hι, rfl, hsh, hcap, hN, hmax⟩
      · have hx0 : xs = [] := List.eq_nil_of_length_eq_zero (by omega)
        subst hx0
        subst hn0; subst hc0
        have hc := chg_virtual (C := C) b ie.size wr hf
        have hu : d.upd = [(b, some (.row ie.size [] G wr))] := by rw [hd]; simp
        have hG : d.G = G + 1 := by rw [hd]
        rw [← hG] at hc
        refine ⟨C.chg b (some (.row ie.size [] G wr)) none C.w G d.G, vs, ?_, ?_, Stp.chg hv hc (by omega) hu fun hg y hy => ?_⟩
        · subst heq
          have hl := hsrc.len C.w
          have hcl := hsrc.cells
          simp only [List.length_nil, Nat.zero_mul, newsOf, List.range_zero, List.map_nil] at hl hcl
          cases p with
          | none => simp [Builtin.append_, run_underlying ht, run_underlying htx, run_size hie, hl, hcl, Cfg.chg]
          | some a => simp [Builtin.append_, run_underlying ht, run_underlying htx, run_size hie, hl, hcl, storeCells, Cfg.chg]
        · have hdv : d.v = .sl b G 0 0 := by rw [hd]; rfl
          rw [hdv, heq]
          refine .sl b G 0 0 p 0 0 (.inr ⟨Nat.le_refl _, by omega⟩) fun sz' es' wr' hb => ?_
          exact ⟨rfl, by omega, .inl ⟨rfl, rfl⟩⟩
        · cases hy
          exact ⟨.inr ⟨Nat.le_refl _, by omega⟩, by simp, .inl ⟨by simp [Cfg.chg, setAt], rfl⟩⟩
      · obtain ⟨c, T', hat, hle', hszs, hcell⟩ := row_cells hv hb hι
        have hNc : N = c.size := by
          simp only [World.shape?, hat, Option.some.injEq, Prod.mk.injEq] at hsh
          exact hsh.2.symm
        have hmul1 : (lo + n) * ie.size ≤ es.length * ie.size := Nat.mul_le_mul_right _ hle
        rw [Nat.add_mul] at hmul1
        have hmul2 : (n + xs.length) * ie.size ≤ cap * ie.size := Nat.mul_le_mul_right _ hfits
        rw [Nat.add_mul] at hmul2
        have hfit : s + lo * ie.size + n * ie.size + (newsOf f' (xs.length * ie.size)).length ≤ c.size := by rw [news_len]; omega
        have hst := run_storeCells_at (P := P) B (s + lo * ie.size + n * ie.size) T' (newsOf f' (xs.length * ie.size)) 0 c C.w hat (by simpa using hfit) hsrc.one
        have hw := setRow_wrote (c' := over c (s + lo * ie.size + n * ie.size) (newsOf f' (xs.length * ie.size))) hat (over_size hfit)
        have hc : Chg C b (some (.row ie.size ((es.drop lo).take n ++ xs) G wr)) (some (B, s + lo * ie.size)) (C.w.setRow B (over c (s + lo * ie.size + n * ie.size) (newsOf f' (xs.length * ie.size)))) G (G + 1) := by
          refine chg_wrote hb hι hw (fun o u hl hu => ?_) (fun o hl => ?_) (.inl ⟨hf, Nat.le_refl _, Nat.lt_succ_self _⟩)
          · simp only [AObj.leaves] at hl
            rw [over_out hfit (.inl ?_)]
            · exact hu
            · rcases hend with he | ⟨hw', he⟩
              · rw [← he, Nat.add_mul] at hl
                split at hl <;> omega
              · rw [hw'] at hl; simp at hl; omega
          · simp only [AObj.leaves, List.length_append, hlen] at hl ⊢
            rw [Nat.add_mul]
            rcases hend with he | ⟨hw', he⟩
            · rw [← he, Nat.add_mul] at hl
              split at hl <;> rename_i hh <;> simp only [hh] <;> simp <;> omega
            · rw [hw'] at hl ⊢; simp at hl ⊢; omega
        have hG : d.G = G + 1 := by rw [hd]
        rw [← hG] at hc
        have hu : d.upd = [(b, some (.row ie.size ((es.drop lo).take n ++ xs) G wr))] := by rw [hd]
        refine ⟨_, .slice (some ⟨B, s + lo * ie.size, none⟩) (n + xs.length) cap, ?_, ?_, Stp.chg hv hc (by omega) hu fun hg y hy => ?_⟩
        · rw [heq]
          simp only [Nat.add_zero] at hst
          have hl := hsrc.len C.w
          have hcl := hsrc.cells
          simp [Builtin.append_, run_underlying ht, run_underlying htx, run_size hie, hl, hfits, hcl, Addr.add_lit, hst, Cfg.chg, over]
        · have hdv : d.v = .sl b G 0 (n + xs.length) := by rw [hd]
          rw [hdv]
          refine .sl b G 0 (n + xs.length) _ _ _ (.inr ⟨Nat.le_refl _, by omega⟩) fun sz' es' wr' hb' => ?_
          have hbh : (C.chg b (some (.row ie.size ((es.drop lo).take n ++ xs) G wr)) (some (B, s + lo * ie.size)) (C.w.setRow B (over c (s + lo * ie.size + n * ie.size) (newsOf f' (xs.length * ie.size)))) G d.G).h b = some (.row ie.size ((es.drop lo).take n ++ xs) G wr) := by simp [Cfg.chg, setAt]
          rw [hbh] at hb'
          cases hb'
          refine ⟨rfl, by simp only [List.length_append, hlen]; omega, .inr ⟨B, s + lo * ie.size, T', c.size, by simp [Cfg.chg, setAt], by simp, ?_, hfits, ?_, hmax⟩⟩
          · show World.shape? (C.w.setRow B _) B = _
            simp only [World.shape?, hw.now, hw.size]
          · omega
        · cases hy
          refine ⟨.inr ⟨Nat.le_refl _, by omega⟩, fun y hy => (List.mem_append.1 hy).elim (hel.size y) (hx'.size y), .inr ⟨B, s + lo * ie.size, _, T', by simp [Cfg.chg, setAt], hw.now, ?_, fun i j y a hi hj => ?_⟩⟩
          · rw [hw.size, List.length_append, hlen, Nat.add_mul]; omega
          · by_cases hin : i < n
            · rw [List.getElem?_append_left (by rw [hlen]; exact hin), List.getElem?_take_of_lt hin, List.getElem?_drop] at hi
              obtain ⟨u, h1, h2⟩ := hcell _ _ y a hi hj
              have hjs : j < ie.size := by rw [← hszs y (List.mem_of_getElem? hi)]; exact (List.getElem?_eq_some_iff.1 hj).1
              have hm : i * ie.size + ie.size ≤ n * ie.size := by rw [← Nat.succ_mul]; exact Nat.mul_le_mul_right _ hin
              refine ⟨u, ?_, hg.rep h2⟩
              rw [over_out hfit (.inl (by omega)), show s + lo * ie.size + (i * ie.size + j) = s + ((lo + i) * ie.size + j) by rw [Nat.add_mul]; omega]
              exact h1
            · rw [List.getElem?_append_right (by rw [hlen]; omega), hlen] at hi
              have hin' : i - n < xs.length := (List.getElem?_eq_some_iff.1 hi).1
              have hjs : j < ie.size := by rw [← hx'.size y (List.mem_of_getElem? hi)]; exact (List.getElem?_eq_some_iff.1 hj).1
              have hm : (i - n) * ie.size + ie.size ≤ xs.length * ie.size := by rw [← Nat.succ_mul]; exact Nat.mul_le_mul_right _ hin'
              have hmi : i * ie.size = n * ie.size + (i - n) * ie.size := by rw [← Nat.add_mul]; congr 1; omega
              refine ⟨f' ((i - n) * ie.size + j), ?_, hg.rep (hx'.rep _ _ y a hi hj)⟩
              rw [show s + lo * ie.size + (i * ie.size + j) = s + lo * ie.size + n * ie.size + ((i - n) * ie.size + j) by omega, over_in hfit (by rw [news_len]; omega), news_get (by omega)]
    · have hd' : d = ⟨.sl b G 0 (((es.drop lo).take n).length + xs.length), [(b, some (.row ie.size ((es.drop lo).take n ++ xs) G wr))], nx, G + 1⟩ := by rw [hd, hlen]
      exact grow_out hv hf ht hie hze hzl hel hx' hsrc (by rw [hlen]; omega) (by rw [hlen]; exact hroom) wr hd'
  | _ => exact (rd_fail h).elim

end Go.AI

namespace Go.AI
variable {P : Program} {C : Cfg}

theorem out_v {G : Nat} {d : Delta} {s : Sem Value} (h : OutV C G d (s.run P C.w)) : Out C G d ((do pure (Next.value (← s)) : Sem Next).run P C.w) := by
  obtain ⟨C', v, hr, hrep, hstp⟩ := h
  exact ⟨C', v, .inl (by simp only [Sem.run_bind, hr, Result.andThen_ok, Sem.run_pure]), hrep, hstp⟩

theorem out_u {G : Nat} {d : Delta} {s : Sem Unit} (h : OutU C G d (s.run P C.w)) : Out C G d ((do s; pure Next.skip : Sem Next).run P C.w) := by
  obtain ⟨C', hr, hd, hstp⟩ := h
  exact ⟨C', undef, .inr ⟨by simp only [Sem.run_bind, hr, Result.andThen_ok, Sem.run_pure], rfl⟩, by rw [hd]; exact rep_undef C', hstp⟩

theorem appR_G {nx G : Nat} {ei : TI} {s : AVal} {xs : List (List AVal)} {h : Nat → Option AObj} {d : Delta} (hr : (appR nx G ei s xs).run h = some d) : d.G = G + 1 := by
  unfold appR at hr
  replace hr := (rd_ifn hr).2
  cases s with
  | il es ex =>
    have := rd_ret (rd_if hr).2
    rw [this]
  | sl b g lo n =>
    replace hr := rd_row hr
    obtain ⟨sz, es, wr, _, hr⟩ := hr
    have := rd_ret (rd_if hr).2
    rw [this]
  | _ => exact (rd_fail hr).elim

theorem run_append_zeros {t tx e ty : TypeId} {k : IntKind} {ie : TypeInfo} {ze : Value} (ht : P.underlying t = some (.slice e)) (htx : P.underlying tx = some (.int k)) (hie : P.info? e = some ie) (hze : ie.zero = some ze) (h0 : ie.size ≠ 0)
    (p : Option Addr) (n : Nat) (hb : n * ie.bytes ≤ 140737488355328) (hn : n ≤ 140737488355328) (w : World) :
    (n = 0 ∧ (Builtin.append_ #[t, tx] ty #[.slice p 0 0, .int .i64 n]).run P w = .ok (.slice p 0 0) w) ∨
    (0 < n ∧ (Builtin.append_ #[t, tx] ty #[.slice p 0 0, .int .i64 n]).run P w = .ok (.slice (some ⟨w.heap.size, 0, none⟩) n (grownCap w n 0 e)) (w.drew.alloc (.cells (Builtin.zeroCells ze.cells n ++ Builtin.zeroCells ze.cells (grownCap w n 0 e - n)) e))) := by
  have hwrap : IntKind.i64.wrap (n : Int) = n := IntWalk.i64_in _ (by omega)
  have h48 : ¬ (281474976710656 < (n : Int) * (ie.bytes : Int)) := by
    have : (n : Int) * (ie.bytes : Int) = ((n * ie.bytes : Nat) : Int) := by push_cast; rfl
    rw [this]; omega
  rcases Nat.eq_zero_or_pos n with rfl | hp
  · left
    refine ⟨rfl, ?_⟩
    have hw0 : IntKind.i64.wrap (0 : Int) = 0 := IntWalk.i64_in _ (by omega)
    cases p <;> simp [Builtin.append_, run_underlying ht, run_underlying htx, run_size hie, asInt, asIntOf, hw0, run_info hie, storeCells]
  · right
    refine ⟨hp, ?_⟩
    have hne : ¬ (n = 0) := by omega
    have hns : ¬ (n * ie.size = 0) := by
      intro h
      rcases Nat.mul_eq_zero.1 h with h | h
      · exact hne h
      · exact h0 h
    have hcap : ¬ (281474976710656 < Builtin.nextslicecap n 0 * ie.bytes) := by rw [nextslicecap_zero hp]; omega
    have h63 : ¬ (9223372036854775807 < (n : Int)) := by omega
    have hf : (Builtin.firstCells ie.size 0 (.slice p 0 0)).run P w.drew = .ok #[] w.drew := by
      cases p with
      | none => exact run_firstCells_none w.drew _ _ _ _
      | some a => exact run_firstCells_some w.drew ie.size 0 a 0 0 [] (by simp) (by simp)
    have hneg : ¬ ((n : Int) < 0) := by omega
    simp [Builtin.append_, run_underlying ht, run_underlying htx, run_size hie, asInt, asIntOf, hwrap, run_info hie, h48, hneg, hne, hns, hcap, h63, Question.forced, hf, run_zero hie hze, Go.newRow, grownCap]

theorem zeroCells_eq (z : Array Value) (n : Nat) : Builtin.zeroCells z n = (Array.range (n * z.size)).map fun i => z[i % z.size]! := rfl

theorem appendZeros_sound (hv : Valid C) {nx G : Nat} (hf : ¬ C.K G) {t tx ty : TypeId} {k : IntKind} (htx : P.underlying tx = some (.int k)) {s : AVal} {vs : Value} (hs : VRep C s vs) {n : Int} {d : Delta} (h : (appendZerosR P nx G t s n).run C.h = some d) :
    OutV C G d ((Builtin.append_ #[t, tx] ty #[vs, .int .i64 n]).run P C.w) := by
  unfold appendZerosR at h
  replace h := rd_opt h; obtain ⟨ti, hti, h⟩ := h
  obtain ⟨inf, dd, z, hinf, hdd, hz, rfl⟩ := tiOf_some hti
  split at h
  · rename_i e hk
    have hu := tk_slice hk
    subst hu
    replace h := rd_opt h; obtain ⟨ei, hei, h⟩ := h
    replace h := rd_if h; obtain ⟨⟨hn, hzl⟩, h⟩ := h
    obtain ⟨ie, de, ze, hie, hde, hze, rfl⟩ := tiOf_some hei
    unfold appR at h
    replace h := rd_ifn h; obtain ⟨hcond, h⟩ := h
    simp only [not_or, Bool.not_eq_false, ne_eq, Decidable.not_not] at hcond
    obtain ⟨hs0, hok, hzl⟩ := hcond
    replace h := rd_if h; obtain ⟨⟨_, _, _, hroom⟩, h⟩ := h
    have hd := rd_ret h
    obtain ⟨m, rfl⟩ := Int.eq_ofNat_of_zero_le hn
    simp only [Int.toNat_natCast, List.length_nil, List.length_replicate, Nat.zero_add, List.nil_append] at hroom hd
    obtain ⟨hr1, hr2⟩ := room_lens hroom
    obtain ⟨sz, p, cap, f, hel, hex, hmax⟩ := il_el hs
    have hc0 : cap = 0 := hex rfl
    subst hc0
    have hvs := hel.eq
    simp only [List.length_nil] at hvs
    subst hvs
    rcases run_append_zeros (ty := ty) hdd htx hie hze hs0 p m hr2 hr1 C.w with ⟨rfl, hrun⟩ | ⟨hp, hrun⟩
    · have hc := chg_virtual (C := C) nx ie.size true hf
      have hu : d.upd = [(nx, some (.row ie.size [] G true))] := by rw [hd]; rfl
      have hG : d.G = G + 1 := by rw [hd]
      rw [← hG] at hc
      refine ⟨C.chg nx (some (.row ie.size [] G true)) none C.w G d.G, _, hrun, ?_, Stp.chg hv hc (by omega) hu fun hg y hy => ?_⟩
      · have hdv : d.v = .sl nx G 0 0 := by rw [hd]
        rw [hdv]
        refine .sl nx G 0 0 p 0 0 (.inr ⟨Nat.le_refl _, by omega⟩) fun sz' es' wr' hb => ?_
        exact ⟨rfl, by omega, .inl ⟨rfl, rfl⟩⟩
      · cases hy
        exact ⟨.inr ⟨Nat.le_refl _, by omega⟩, by simp, .inl ⟨by simp [Cfg.chg, setAt], rfl⟩⟩
    · have hcap := grownCap_ge C.w m 0 e
      have hmax := grownCap_le_maxLen C.w m 0 e (by unfold maxLen; omega)
      have hzl' : ze.cells.size = ie.size := by rw [← ofVal_cells]; exact hzl
      have hrow := zerosRow (C := C) (z := ze) hzl m
      have hsize : (Builtin.zeroCells ze.cells m ++ Builtin.zeroCells ze.cells (grownCap C.w m 0 e - m)).size = grownCap C.w m 0 e * ie.size := by
        simp only [Array.size_append, size_zeroCells, hzl', ← Nat.add_mul]
        congr 1; omega
      refine newRow_out (mk := fun b g => .sl b g 0 m) (w1 := C.w.drew) hv hf rfl rfl rfl rfl hd _ e hrun hrow.1 (by rw [hsize, List.length_replicate]; exact Nat.mul_le_mul_right _ hcap) (fun i j e' a hi hj => ?_)
        fun C' h1 h2 h3 h4 => sl_new h1 h2 h3 h4 (by simp) hcap (by rw [hsize]; exact Nat.le_refl _) hmax
      obtain ⟨v, h1, h2⟩ := hrow.2.2 i j e' a hi hj
      refine ⟨v, ?_, h2⟩
      rw [hzl'] at h1
      have hlt := (Array.getElem?_eq_some_iff.1 h1).1
      rw [Array.getElem?_append_left (by rw [zeroCells_eq, hzl']; exact hlt), zeroCells_eq, hzl']
      exact h1
  · exact (rd_fail h).elim

theorem elems_El {α : Type} (hv : Valid C) {x : AVal} {vx : Value} (hx : VRep C x vx) {k : List (List AVal) → Rd α} {d : α} (h : (elems x k).run C.h = some d) :
    ∃ xs sz p cap f, El C vx xs sz p cap f ∧ (k xs).run C.h = some d := by
  unfold elems at h
  cases x with
  | il es ex =>
    obtain ⟨sz, p, cap, f, hel, _, _⟩ := il_el hx
    exact ⟨es, sz, p, cap, f, hel, h⟩
  | sl b g lo n =>
    replace h := rd_row h; obtain ⟨sz, es, wr, hb, h⟩ := h
    obtain ⟨p, cap, f, hel⟩ := sl_el hv hx hb
    exact ⟨_, sz, p, cap, f, hel, h⟩
  | _ => exact (rd_fail h).elim

theorem len_sound (hv : Valid C) {nx G : Nat} {t : TypeId} {x : AVal} {vx : Value} (hx : VRep C x vx) {ts : Array TypeId} (hts : ts[0]? = some t) {ty : TypeId} {d : Delta}
    (h : (ofOpt (tiOf P t) fun ti => match ti.kind with
      | .slice _ => (match x with | .il _ _ | .sl _ _ _ _ => lenR nx G x | _ => .fail)
      | .map _ _ => (match x with | .im _ | .mp _ _ => lenR nx G x | _ => .fail)
      | _ => .fail).run C.h = some d) : OutV C G d ((Builtin.len_ ts ty #[vx]).run P C.w) := by
  replace h := rd_opt h; obtain ⟨ti, hti, h⟩ := h
  obtain ⟨inf, dd, z, hinf, hdd, hz, rfl⟩ := tiOf_some hti
  split at h
  · rename_i e hk
    have hu := tk_slice hk
    subst hu
    cases x with
    | il es ex =>
      obtain ⟨sz, p, cap, f, hel, _, _⟩ := il_el hx
      have hd := rd_val h
      refine out_val hv hd (v := .int .i64 es.length) ?_ (.int _ _)
      rw [hel.eq]
      simp [Builtin.len_, hts, run_underlying hdd, goInt]
    | sl b g lo n =>
      replace h := rd_row h; obtain ⟨sz, es, wr, hb, h⟩ := h
      have hd := rd_val h
      obtain ⟨p, cap, rfl, _⟩ := sl_live hx hb
      refine out_val hv hd (v := .int .i64 n) ?_ (.int _ _)
      simp [Builtin.len_, hts, run_underlying hdd, goInt]
    | _ => exact (rd_fail h).elim
  · rename_i kt e hk
    have hu := tk_map hk
    subst hu
    cases x with
    | im es =>
      have hd := rd_val h
      refine out_val hv hd (v := .int .i64 es.length) ?_ (.int _ _)
      cases hx with
      | im0 => simp [Builtin.len_, hts, run_underlying hdd, goInt]
      | im es B ents clock hat hl hk1 hv1 hborn hclk hs =>
        have hget : (getObj B).run P C.w = .ok (.map ents clock) C.w := by simp [getObj, Sem.run, hat]
        simp [Builtin.len_, hts, run_underlying hdd, goInt, hget, hl]
    | mp b g =>
      replace h := rd_map h; obtain ⟨es, ver, hb, h⟩ := h
      have hd := rd_val h
      obtain ⟨B, ents, clock, rfl, hi, hat, hl, _⟩ := mp_live hx hv hb
      have hget : (getObj B).run P C.w = .ok (.map ents clock) C.w := by simp [getObj, Sem.run, hat]
      refine out_val hv hd (v := .int .i64 es.length) ?_ (.int _ _)
      simp [Builtin.len_, hts, run_underlying hdd, goInt, hget, hl]
    | _ => exact (rd_fail h).elim
  · exact (rd_fail h).elim

theorem builtin_sound (hv : Valid C) {nx G : Nat} {b : Builtin} {ts : Array TypeId} {ty : TypeId} {cs : Array Bool} {args : List AVal} {vs : Array Value} (hl : args.length = vs.size) (hr : ∀ (i : Nat) (a : AVal) (v : Value), args[i]? = some a → vs[i]? = some v → VRep C a v) {d : Delta}
    (hG : ∀ g, G ≤ g → g < d.G → ¬ C.K g) (hts : ∀ t u, ts[0]? = some t → ts[1]? = some u → ts = #[t, u]) (h : (builtinR P nx G b ts args).run C.h = some d) : Out C G d ((builtin b ts ty cs vs).run P C.w) := by
  have two : ∀ {a1 a2 : AVal}, args = [a1, a2] → ∃ v1 v2, vs = #[v1, v2] ∧ VRep C a1 v1 ∧ VRep C a2 v2 := by
    intro a1 a2 he
    subst he
    obtain ⟨l⟩ := vs
    match l, hl with
    | [v1, v2], _ => exact ⟨v1, v2, rfl, hr 0 a1 v1 rfl rfl, hr 1 a2 v2 rfl rfl⟩
  have one : ∀ {a1 : AVal}, args = [a1] → ∃ v1, vs = #[v1] ∧ VRep C a1 v1 := by
    intro a1 he
    subst he
    obtain ⟨l⟩ := vs
    match l, hl with
    | [v1], _ => exact ⟨v1, rfl, hr 0 a1 v1 rfl rfl⟩
  unfold builtinR at h
  split at h
  · -- append of zeros
    rename_i s n
    obtain ⟨v1, v2, rfl, h1, h2⟩ := two rfl
    cases h2
    replace h := rd_opt h; obtain ⟨t, ht, h⟩ := h
    replace h := rd_opt h; obtain ⟨u, hu, h⟩ := h
    replace h := rd_opt h; obtain ⟨ui, hui, h⟩ := h
    obtain ⟨inf, dd, z, hinf, hdd, hz, rfl⟩ := tiOf_some hui
    split at h
    · rename_i k hk
      have hk' := tk_int hk
      subst hk'
      rw [hts t u ht hu]
      have hdG : d.G = G + 1 := by
        unfold appendZerosR at h
        obtain ⟨_, _, h⟩ := rd_opt h
        split at h
        · obtain ⟨_, _, h⟩ := rd_opt h
          exact appR_G (rd_if h).2
        · exact (rd_fail h).elim
      exact out_v (appendZeros_sound hv (hG G (Nat.le_refl _) (by omega)) hdd h1 h)
    · exact (rd_fail h).elim
  · -- append
    rename_i s x _
    obtain ⟨v1, v2, rfl, h1, h2⟩ := two rfl
    replace h := rd_if h; obtain ⟨he, h⟩ := h
    replace h := rd_opt h; obtain ⟨t, ht, h⟩ := h
    rw [hts t t ht (by rw [← he]; exact ht)]
    unfold appendR at h
    replace h := rd_opt h; obtain ⟨ti, hti, h⟩ := h
    obtain ⟨inf, dd, z, hinf, hdd, hz, rfl⟩ := tiOf_some hti
    split at h
    · rename_i e hk
      have hu := tk_slice hk
      subst hu
      replace h := rd_opt h; obtain ⟨ei, hei, h⟩ := h
      obtain ⟨xs, sz, p, cap, f, hel, h⟩ := elems_El hv h2 h
      have hdG := appR_G h
      exact out_v (app_sound hv (hG G (Nat.le_refl _) (by omega)) hdd hdd hei h1 hel h)
    · exact (rd_fail h).elim
  · rename_i x
    obtain ⟨v1, rfl, h1⟩ := one rfl
    replace h := rd_opt h; obtain ⟨t, ht, h⟩ := h
    exact out_v (len_sound hv h1 ht h)
  · rename_i es
    obtain ⟨v1, rfl, h1⟩ := one rfl
    replace h := rd_opt h; obtain ⟨t, ht, h⟩ := h
    replace h := rd_opt h; obtain ⟨ti, hti, h⟩ := h
    obtain ⟨inf, dd, z, hinf, hdd, hz, rfl⟩ := tiOf_some hti
    split at h
    · rename_i e hk
      have hu := tk_slice hk
      subst hu
      have hd := rd_val h
      obtain ⟨sz, p, cap, f, hel, hex, _⟩ := il_el h1
      refine out_v (out_val hv hd (v := .int .i64 es.length) ?_ (.int _ _))
      rw [hel.eq, hex rfl]
      simp [Builtin.cap_, ht, run_underlying hdd, goInt]
    · exact (rd_fail h).elim
  · rename_i k a k' b
    obtain ⟨v1, v2, rfl, h1, h2⟩ := two rfl
    cases h1; cases h2
    replace h := rd_if h; obtain ⟨rfl, h⟩ := h
    have hd := rd_val h
    refine out_v (out_val hv hd (v := .int k (if b < a then b else a)) ?_ (.int _ _))
    simp [Builtin.min_, Builtin.min2]
  · rename_i m k
    obtain ⟨v1, v2, rfl, h1, h2⟩ := two rfl
    replace h := rd_opt h; obtain ⟨t, ht, h⟩ := h
    exact out_v (delete_sound hv h1 h2 ht h)
  · rename_i m
    obtain ⟨v1, rfl, h1⟩ := one rfl
    replace h := rd_opt h; obtain ⟨t, ht, h⟩ := h
    exact out_v (clear_sound hv h1 ht h)
  · exact (rd_fail h).elim

end Go.AI

namespace Go.AI
variable {P : Program} {C : Cfg}

theorem map_rep {ρ : Operand → AVal} {ρc : Operand → Value} (hρ : ∀ x, VRep C (ρ x) (ρc x)) (xs : Array Operand) :
    (xs.toList.map ρ).length = (xs.map ρc).size ∧ ∀ (i : Nat) (a : AVal) (v : Value), (xs.toList.map ρ)[i]? = some a → (xs.map ρc)[i]? = some v → VRep C a v := by
  refine ⟨by simp, fun i a v ha hv => ?_⟩
  rw [List.getElem?_map, Array.getElem?_toList] at ha
  rw [Array.getElem?_map] at hv
  cases hx : xs[i]? with
  | none => rw [hx] at ha; cases ha
  | some x =>
    rw [hx] at ha hv
    cases ha; cases hv
    exact hρ x

def isCall (o : Oper) : Bool :=
  match o.op with
  | .call c => match c.callee with
    | .value _ => true
    | _ => false
  | _ => false

theorem nilCheck_sound {nx G : Nat} {a : AVal} {va : Value} (ha : VRep C a va) {d : Delta} (h : (nilCheckR nx G a).run C.h = some d) :
    d = ⟨a, [], nx, G⟩ ∧ ((∃ p, va = .pointer (some p)) ∨ ∃ f us vs, va = .func (.func f) us vs) := by
  unfold nilCheckR at h
  split at h
  · replace h := rd_row h; obtain ⟨sz, es, wr, hb, h⟩ := h
    have hd := rd_val h
    obtain ⟨B, s, _, rfl⟩ := ptr_live ha hb
    exact ⟨hd, .inl ⟨_, rfl⟩⟩
  · have hd := rd_val h
    cases ha
    exact ⟨hd, .inl ⟨_, rfl⟩⟩
  · have hd := rd_val h
    cases ha
    exact ⟨hd, .inr ⟨_, _, _, rfl⟩⟩
  · exact (rd_fail h).elim

theorem op_sound (hv : Valid C) {X : Ext} {nx G : Nat} {o : Oper} {ρ : Operand → AVal} {ρc : Operand → Value} (hρ : ∀ x, VRep C (ρ x) (ρc x)) (hconst : ∀ v, ρc (.const v) = v) {d : Delta} (hG : ∀ g, G ≤ g → g < d.G → ¬ C.K g)
    (hnc : isCall o = false) (h : (opR P X ρ nx G o).run C.h = some d) : Out C G d ((execOp ρc o).run P C.w) := by
  unfold opR at h
  unfold execOp
  have same : ∀ {a : AVal} {v : Value}, d = ⟨a, [], nx, G⟩ → VRep C a v → Out C G d (.ok (.value v) C.w) := fun hd hr => by
    subst hd
    exact ⟨C, _, .inl rfl, hr, Stp.same hv G rfl (Nat.le_refl _)⟩
  split at h
  · rename_i x hop; simp only [hop]; exact same (rd_val h) (hρ x)
  · rename_i x hop; simp only [hop]; exact same (rd_val h) (hρ x)
  · rename_i c a b hop
    simp only [hop]
    split at h
    · rename_i t ht
      have hd := rd_val h
      have hc := hρ c
      rw [ht] at hc
      generalize ρc c = vc at hc ⊢
      cases hc
      simp only [asBool, Sem.run_bind, Sem.run_pure, Result.andThen_ok]
      refine same hd ?_
      cases t
      · exact hρ b
      · exact hρ a
    · exact (rd_fail h).elim
  · -- alloc
    rename_i t hop
    simp only [hop]
    have hdG : d.G = G + 1 := by
      obtain ⟨_, _, h⟩ := rd_opt h
      rw [rd_ret (rd_if h).2]
    exact out_v (alloc_sound hv (hG G (Nat.le_refl _) (by omega)) h)
  · rename_i t x hop
    simp only [hop]
    have hdG : d.G = G + 1 := by
      obtain ⟨_, _, h⟩ := rd_opt h
      rw [rd_ret (rd_if h).2]
    exact out_v (box_sound hv (hG G (Nat.le_refl _) (by omega)) (hρ x) h)
  · rename_i t parts hop; simp only [hop]; exact out_v (build_sound hv hρ h)
  · rename_i t len parts hop
    simp only [hop]
    have hdG : d.G = G + 1 := by
      unfold buildSliceR at h
      obtain ⟨_, _, h⟩ := rd_opt h
      split at h
      · obtain ⟨_, _, h⟩ := rd_opt h
        obtain ⟨_, _, h⟩ := rd_opt (rd_ifn h).2
        rw [rd_ret h]
      · exact (rd_fail h).elim
    exact out_v (buildSlice_sound hv (hG G (Nat.le_refl _) (by omega)) hρ h)
  · rename_i t a hop; simp only [hop]; exact out_v (load_sound hv (hρ a) h)
  · rename_i t a v hop; simp only [hop]; exact out_u (store_sound hv (hρ a) (hρ v) h)
  · rename_i x hop
    simp only [hop]
    obtain ⟨hd, hc⟩ := nilCheck_sound (hρ x) h
    have hr := hρ x
    rcases hc with ⟨p, hp⟩ | ⟨f, us, vs, hp⟩ <;> (rw [hp] at hr ⊢; exact same hd hr)
  · rename_i op t x y ty hop
    simp only [hop]
    split at h
    · rename_i hn
      replace h := rd_opt h; obtain ⟨a, ha, h⟩ := h
      have hd := rd_val h
      have hy := isNil_spec hn
      subst hy
      obtain ⟨v, hr, hrep⟩ := nil_sound (ox := x) (oy := .const (.slice none 0 0)) (hρ x) ha C.w
      rw [hconst]
      exact out_v (out_val hv hd hr hrep)
    · replace h := rd_opt h; obtain ⟨a, ha, h⟩ := h
      have hd := rd_val h
      obtain ⟨v, hr, hrep⟩ := bin_sound (ox := x) (oy := y) (hρ x) (hρ y) ha C.w
      exact out_v (out_val hv hd hr hrep)
  · rename_i op t x hop
    simp only [hop]
    replace h := rd_opt h; obtain ⟨a, ha, h⟩ := h
    have hd := rd_val h
    obtain ⟨v, hr, hrep⟩ := unary_sound (P := P) (hρ x) ha C.w
    exact out_v (out_val hv hd hr hrep)
  · -- convert
    rename_i s t x hop
    simp only [hop]
    unfold convertR at h
    replace h := rd_opt h; obtain ⟨si, hsi, h⟩ := h
    replace h := rd_opt h; obtain ⟨di, hdi, h⟩ := h
    split at h
    · rename_i k k' n hk hx
      have hd := rd_val h
      have hr := hρ x
      rw [hx] at hr
      obtain ⟨i1, d1, z1, h1, hd1, hz1, rfl⟩ := tiOf_some hsi
      obtain ⟨i2, d2, z2, h2, hd2, hz2, rfl⟩ := tiOf_some hdi
      have hk2 := tk_int hk
      subst hk2
      generalize ρc x = vx at hr ⊢
      cases hr
      refine out_v (out_val hv hd (v := .int k (k.wrap n)) ?_ (.int _ _))
      simp [convert, run_underlying hd1, run_underlying hd2, Conv.intToInt]
    · exact (rd_fail h).elim
  · -- makeFunc
    rename_i f fs cs hop
    simp only [hop]
    have hd := rd_val h
    obtain ⟨h1, h2⟩ := map_rep hρ fs
    obtain ⟨h3, h4⟩ := map_rep hρ cs
    exact out_v (out_val hv hd (v := .func f (fs.map ρc) (cs.map ρc)) rfl (.fn f _ _ _ _ h1 h3 h2 h4))
  · -- makeMap
    rename_i t hop
    simp only [hop]
    have hd := rd_ret h
    have hf : ¬ C.K G := hG G (Nat.le_refl _) (by rw [hd]; exact Nat.lt_succ_self _)
    have hc := chg_alloc (y := .map [] G 0) hv nx (w1 := C.w) rfl rfl rfl rfl (.map #[] 0) hf rfl
    have hdG : d.G = G + 1 := by rw [hd]
    rw [← hdG] at hc
    have hu : d.upd = [(nx, some (.map [] G 0))] := by rw [hd]
    refine ⟨_, .map (some C.w.heap.size), .inl ?_, ?_, Stp.chg hv hc (by omega) hu fun hg y hy => ?_⟩
    · simp [Instr.makeMap, Cfg.chg]
    · have hdv : d.v = .mp nx G := by rw [hd]
      rw [hdv]
      refine .mp nx G _ (.inr ⟨Nat.le_refl _, by omega⟩) fun es v hb => ⟨C.w.heap.size, by simp [Cfg.chg, setAt], rfl⟩
    · cases hy
      refine ⟨.inr ⟨Nat.le_refl _, by omega⟩, C.w.heap.size, #[], 0, by simp [Cfg.chg, setAt], ?_, rfl, by simp, by simp, by simp⟩
      exact alloc_new C.w _
  · rename_i t l c hop
    simp only [hop]
    have hdG : d.G = G + 1 := by
      unfold makeSliceR at h
      obtain ⟨_, _, h⟩ := rd_opt h
      split at h
      · obtain ⟨_, _, h⟩ := rd_opt h
        rw [rd_ret (rd_if h).2]
      · exact (rd_fail h).elim
    exact out_v (makeSlice_sound hv (hG G (Nat.le_refl _) (by omega)) (hρ l) (hρ c) h)
  · rename_i t x lo hi mx hop; simp only [hop]; exact out_v (slice_sound hv (hρ x) hρ h)
  · rename_i s x f hop; simp only [hop]; exact out_v (fieldAddr_sound hv (hρ x) h)
  · rename_i t x f hop; simp only [hop]; exact out_v (field_sound hv (hρ x) h)
  · rename_i t x i hop; simp only [hop]; exact out_v (indexAddr_sound hv (hρ x) (hρ i) h)
  · rename_i t x i hop; simp only [hop]; exact out_v (index_sound hv (hρ x) (hρ i) h)
  · rename_i t m k ok hop; simp only [hop]; exact out_v (lookup_sound hv (hρ m) (hρ k) h)
  · rename_i t m k v hop; simp only [hop]; exact out_u (mapUpdate_sound hv (hρ m) (hρ k) (hρ v) h)
  · rename_i t m k v hop; simp only [hop]; exact out_u (mapUpdate_sound hv (hρ m) (hρ k) (hρ v) h)
  · -- extract
    rename_i t i hop
    simp only [hop]
    split at h
    · rename_i vs hvs
      replace h := rd_opt h; obtain ⟨a, ha, h⟩ := h
      have hd := rd_val h
      have hr := hρ t
      rw [hvs] at hr
      generalize ρc t = vt at hr ⊢
      cases hr with
      | tup cs us hl hr =>
        have hi : i < us.size := by rw [← hl]; exact (List.getElem?_eq_some_iff.1 ha).1
        refine out_v (out_val hv hd (v := us[i]) ?_ (hr i a _ ha (Array.getElem?_eq_getElem hi)))
        simp [Instr.extract, Array.getElem?_eq_getElem hi]
    · exact (rd_fail h).elim
  · -- call
    rename_i c hop
    simp only [hop]
    split at h
    · rename_i b hb
      replace h := rd_if h; obtain ⟨hsz, h⟩ := h
      obtain ⟨h1, h2⟩ := map_rep hρ c.args
      simp only [resolve, hb, Sem.run_bind, Sem.run_pure, Result.andThen_ok, invoke]
      refine builtin_sound hv h1 h2 hG (fun t u ht hu => ?_) h
      have hs2 : c.argTypes.size = 2 := by have := (Array.getElem?_eq_some_iff.1 hu).1; omega
      apply Array.ext_getElem?
      intro i
      rcases i with _ | _ | i
      · simpa using ht
      · simpa using hu
      · rw [Array.getElem?_eq_none (by omega)]; simp
    · rename_i f hf
      simp [isCall, hop, hf] at hnc
    · exact (rd_fail h).elim
  · exact (rd_fail h).elim

end Go.AI
