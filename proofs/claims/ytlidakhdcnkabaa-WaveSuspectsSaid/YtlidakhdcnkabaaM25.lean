/- rings: all rings of readings are tried; walked. All rings have the sum 0 just if the record fits. Plain law. No condition. -/
import Derived.Test.YtlidakhdcnkabaaM23
namespace Go.Proofs.Ytlidakhdcnkabaa
open Go.AI
set_option linter.unusedSimpArgs false

def badR (t : Tide) (p : List Int) (s : Int) : Bool := decide (p ≠ [] ∧ p.length % 2 = 0 ∧ (rd t (p.getD 0 0)).1.tmod t.moon = (rd t (p.getD (p.length - 1) 0)).1.tmod t.moon ∧ s ≠ 0)
def stepBad (t : Tide) (p : List Int) (k : Nat) : Bool :=
  decide (p ≠ [] ∧ if p.length % 2 = 1 then (rd t k).1.tmod t.sun ≠ (rd t (p.getD (p.length - 1) 0)).1.tmod t.sun else (rd t k).1.tmod t.moon ≠ (rd t (p.getD (p.length - 1) 0)).1.tmod t.moon)
def nextSum (t : Tide) (p : List Int) (s : Int) (k : Nat) : Int := IntKind.i64.wrap (s + if p.length % 2 = 1 then IntKind.i64.wrap (-(rd t k).2) else (rd t k).2)

def ringsT (t : Tide) : Nat → List Int → Int → Bool
  | 0, p, s => !badR t p s
  | f + 1, p, s => !badR t p s && (List.range t.rs.length).all fun k => decide ((k : Int) ∈ p) || stepBad t p k || ringsT t f (p ++ [(k : Int)]) (nextSum t p s k)

def ringsOk (t : Tide) (p : List Int) : Prop := ((t.sun ≠ 0 ∧ t.moon ≠ 0) ∧ t.rs.length ≤ 60) ∧ p.Nodup ∧ ∀ i ∈ p, inRs t i
instance (t : Tide) (p : List Int) : Decidable (ringsOk t p) := by unfold ringsOk; infer_instance

def ringsS (k : Nat) : FSpec := fun xs nx G => match xs with
  | [r, .il es _, .int .i64 s] => ofOpt (asTide r) fun t => ofOpt (asInts es) fun p => if ringsOk t p ∧ t.rs.length - p.length < k then valR nx G (.bool (ringsT t (t.rs.length - p.length) p s)) else .fail
  | _ => .fail

theorem rings_at (k : Nat) (t : Tide) (ex e1 : Bool) (p : List Int) (s : Int) (h : ringsOk t p ∧ t.rs.length - p.length < k) (nx G : Nat) : ringsS k [tideA t ex, .il (ints p) e1, .int .i64 s] nx G = valR nx G (.bool (ringsT t (t.rs.length - p.length) p s)) := by
  simp only [ringsS, asTide_tide, ofOpt, asInts_ints]
  rw [if_pos h]

theorem path_le {t : Tide} {p : List Int} (h : p.Nodup) (hr : ∀ i ∈ p, inRs t i) : p.length ≤ t.rs.length := by
  have := nodup_le (m := (List.range t.rs.length).map fun k : Nat => (k : Int)) h fun i hi => by
    have := hr i hi
    unfold inRs at this
    exact List.mem_map.2 ⟨i.toNat, List.mem_range.2 (by omega), by omega⟩
  simpa using this

theorem ok_snoc {t : Tide} {p : List Int} (h : ringsOk t p) {k : Nat} (hk : k < t.rs.length) (hn : (k : Int) ∉ p) : ringsOk t (p ++ [(k : Int)]) ∧ p.length + 1 ≤ t.rs.length := by
  obtain ⟨h0, h1, h2⟩ := h
  have h3 : ringsOk t (p ++ [(k : Int)]) := by
    refine ⟨h0, ?_, fun i hi => ?_⟩
    · rw [List.nodup_append]
      exact ⟨h1, by simp, fun a ha b hb => by simp only [List.mem_singleton] at hb; subst hb; exact fun e => hn (e ▸ ha)⟩
    · rcases List.mem_append.1 hi with hi | hi
      · exact h2 i hi
      · simp only [List.mem_singleton] at hi; subst hi; unfold inRs; omega
  refine ⟨h3, ?_⟩
  have := path_le h3.2.1 h3.2.2
  simpa using this

def XR (k : Nat) : Ext := .of [(29, ringsS k)] []
@[simp] theorem XR.raw_ (k : Nat) (f : FuncId) : (XR k).raw f = false := rfl
@[simp] theorem XR.s29 (k : Nat) : (XR k).spec 29 = ringsS k := rfl

set_option maxHeartbeats 2000000 in
theorem rings_sound : ∀ k, FSound Try.prog 29 (ringsS k)
  | 0 => by
    intro C xs vs nx G d hv hr hG h
    unfold ringsS at h
    split at h
    · replace h := rd_opt h; obtain ⟨t, ht, h⟩ := h
      replace h := rd_opt h; obtain ⟨p, hp, h⟩ := h
      split at h
      · rename_i hh; omega
      · exact (rd_fail h).elim
    · exact (rd_fail h).elim
  | k + 1 => by
    have hX : (XR k).Sound Try.prog := Ext.of_sound ⟨rings_sound k, trivial⟩
    refine fsound_pure Try.func29 (by kernel_rfl) rfl _ fun xs nx G d hp h => ?_
    unfold ringsS at h
    split at h
    case h_2 => exact (rd_fail h).elim
    rename_i r es e1 s
    replace h := rd_opt h; obtain ⟨t, ht, h⟩ := h
    replace h := rd_opt h; obtain ⟨p, hpp, h⟩ := h
    obtain ⟨ex, rfl⟩ := asTide_some ht
    have := asInts_some hpp; subst this
    split at h
    case isFalse => exact (rd_fail h).elim
    rename_i hcon
    obtain ⟨hok, hk⟩ := hcon
    have hok' := hok
    obtain ⟨⟨⟨hz1, hz2⟩, h60⟩, hnd, hin⟩ := hok'
    have hd := rd_val h
    subst hd
    refine ⟨by simp [Try.f29], all3 (free_tide t ex) (free_ints _ _) (.int _ _), ?_⟩
    have one : ∀ {st : St} {v : Bool}, tget st.tmps 6 = .bool v → Ends0 Try.prog Try.f29 st nx G ⟨.bool v, [], nx, G⟩ := fun {st v} hv => ends_free (l := [.tmp 6]) rfl (rs := [.bool v]) (by simp [hv]) (fun k => by simp) (by simp)
    have htm : ∀ n : Nat, (n : Int).tmod 2 = ((n % 2 : Nat) : Int) := fun n => by rw [Int.tmod_eq_emod_of_nonneg (by omega)]; omega
    have hple := path_le hnd hin
    have okr : okEs 1 (ints p) = true := by simp [okEs, AVal.sc]
    have okp : okEs 2 (pairs t.rs) = true := by simp [okEs, AVal.sc]
    obtain ⟨n, hn⟩ : ∃ n, p.length = n := ⟨_, rfl⟩
    have wN : IntKind.i64.wrap ((n : Int) - 1) = (n : Int) - 1 := wrap64 (by omega) (by omega)
    -- first and last
    have last : p ≠ [] → ∃ (p0 pl : Int) (x0 xl : Int × Int), 0 < n ∧ p[0]? = some p0 ∧ p[n - 1]? = some pl ∧ (0 ≤ p0 ∧ p0 < t.rs.length) ∧ (0 ≤ pl ∧ pl < t.rs.length) ∧ t.rs[p0.toNat]? = some x0 ∧ t.rs[pl.toNat]? = some xl ∧ rd t (p.getD 0 0) = x0 ∧ rd t (p.getD (p.length - 1) 0) = xl := by
      intro hne
      have hpos : 0 < p.length := List.length_pos_iff.2 hne
      have g0 := List.getElem?_eq_getElem (l := p) (i := 0) hpos
      have g1 := List.getElem?_eq_getElem (l := p) (i := n - 1) (by omega)
      have i0 := hin _ (List.mem_of_getElem? g0)
      have i1 := hin _ (List.mem_of_getElem? g1)
      unfold inRs at i0 i1
      refine ⟨_, _, _, _, by omega, g0, g1, i0, i1, List.getElem?_eq_getElem (by omega), List.getElem?_eq_getElem (by omega), ?_, ?_⟩
      · have q0 : p.getD 0 0 = p[0] := by rw [List.getD_eq_getElem?_getD, g0]; rfl
        simp only [rd, q0]
        rw [List.getD_eq_getElem?_getD, List.getElem?_eq_getElem (by omega)]; rfl
      · have q1 : p.getD (n - 1) 0 = p[n - 1] := by rw [List.getD_eq_getElem?_getD, g1]; rfl
        simp only [rd, hn, q1]
        rw [List.getD_eq_getElem?_getD, List.getElem?_eq_getElem (by omega)]; rfl
    refine .step hX (by kernel_rfl) (by simp; exact rfl) ?_ -- region 0
    refine .step hX (by kernel_rfl) (by simp [hn]; exact rfl) ?_ -- region 1
    refine .cutI (fun st => badR t p s = false ∧ ∃ G1, st = ⟨[(1, .il (ints p) e1), (2, .int .i64 s), (3, .ptr 0 0 0 0), (7, .int .i64 n)], [(0, some (.row 3 [tideC t ex] 0 true))], 1, G1⟩) ?_ ?_
    · by_cases hp0 : p = []
      · have hn0 : n = 0 := by rw [← hn, hp0]; rfl
        subst hn0
        have hb : badR t p s = false := by simp [badR, hp0]
        refine .draw mixed hX (by kernel_rfl) (by kernel_rfl) rfl (by simp; exact ⟨rfl, rfl⟩) (looseB_spec (by kernel_rfl)) ?_ -- region 2
        refine .cond (t := false) (by simp) (.skip ?_)
        exact ⟨_, View.norm _ [1, 2, 3, 7] [0] 1 1 (by simp), hb, 1, rfl⟩
      · obtain ⟨p0, pl, x0, xl, hpos, a1, a2, a3, a4, a5, a6, a7, a8⟩ := last hp0
        have a1' : p[0]'(by omega) = p0 := by rw [List.getElem?_eq_getElem (by omega)] at a1; simpa using a1
        have a2' : p[n - 1]'(by omega) = pl := by rw [List.getElem?_eq_getElem (by omega)] at a2; simpa using a2
        have a5' : t.rs[p0.toNat]'(by omega) = x0 := by rw [List.getElem?_eq_getElem (by omega)] at a5; simpa using a5
        have a6' : t.rs[pl.toNat]'(by omega) = xl := by rw [List.getElem?_eq_getElem (by omega)] at a6; simpa using a6
        have b1 : (0 : Int) ≤ (n : Int) - 1 := by omega
        have b2 : (n : Int) - 1 < n := by omega
        have b3 : ((n : Int) - 1).toNat = n - 1 := by omega
        have b4 : (0 : Int) < n := by omega
        have b5 : (1 : Int) ≤ n := by omega
        have b6 : 1 ≤ n := hpos
        by_cases hev : n % 2 = 0
        · have hm : (n : Int).tmod 2 = 0 := by rw [htm, hev]; rfl
          by_cases hmo : x0.1.tmod t.moon = xl.1.tmod t.moon
          · by_cases hs0 : s = 0
            · subst hs0
              have hb : badR t p 0 = false := by simp [badR]
              refine .draw mixed hX (by kernel_rfl) (by kernel_rfl) rfl (by simp [hm, hpos, hn, okr, okp, a1, a2, a3.1, a3.2, a4.1, a4.2, a5, a6, a1', a2', a5', a6', b1, b2, b3, b4, b5, b6, wN, hz2, hmo]; exact ⟨rfl, rfl⟩) (looseB_spec (by kernel_rfl)) ?_ -- region 2
              refine .cond (t := false) (by simp) (.skip ?_)
              exact ⟨_, View.norm _ [1, 2, 3, 7] [0] 1 1 (by simp), hb, 1, rfl⟩
            · have hb : badR t p s = true := by
                unfold badR
                rw [a7, a8, hn]
                exact decide_eq_true ⟨hp0, hev, hmo, hs0⟩
              have hsb : (s == 0) = false := by simpa using hs0
              have hr : ringsT t (t.rs.length - p.length) p s = false := by
                cases t.rs.length - p.length with
                | zero => simp [ringsT, hb]
                | succ f => simp [ringsT, hb]
              rw [hr]
              refine .draw mixed hX (by kernel_rfl) (by kernel_rfl) rfl (by simp [hm, hpos, hn, okr, okp, a1, a2, a3.1, a3.2, a4.1, a4.2, a5, a6, a1', a2', a5', a6', b1, b2, b3, b4, b5, b6, wN, hz2, hmo, hsb]; exact ⟨rfl, rfl⟩) (looseB_spec (by kernel_rfl)) ?_ -- region 2
              refine .cond (t := true) (by simp [hs0]) ?_
              refine .step hX (by kernel_rfl) (by simp; exact rfl) ?_ -- region 3
              exact .ret ⟨.inr rfl, one (by simp)⟩
          · have hb : badR t p s = false := by
              unfold badR
              rw [a7, a8, hn]
              exact decide_eq_false fun q => hmo q.2.2.1
            have hmb : (x0.1.tmod t.moon == xl.1.tmod t.moon) = false := by simpa using hmo
            refine .draw mixed hX (by kernel_rfl) (by kernel_rfl) rfl (by simp [hm, hpos, hn, okr, okp, a1, a2, a3.1, a3.2, a4.1, a4.2, a5, a6, a1', a2', a5', a6', b1, b2, b3, b4, b5, b6, wN, hz2, hmb]; exact ⟨rfl, rfl⟩) (looseB_spec (by kernel_rfl)) ?_ -- region 2
            refine .cond (t := false) (by simp [hmo]) (.skip ?_)
            exact ⟨_, View.norm _ [1, 2, 3, 7] [0] 1 1 (by simp), hb, 1, rfl⟩
        · have hm : (n : Int).tmod 2 = 1 := by rw [htm, show n % 2 = 1 by omega]; rfl
          have hb : badR t p s = false := by
            unfold badR
            rw [hn]
            exact decide_eq_false fun q => hev q.2.1
          refine .draw mixed hX (by kernel_rfl) (by kernel_rfl) rfl (by simp [hm, hpos]; exact ⟨rfl, rfl⟩) (looseB_spec (by kernel_rfl)) ?_ -- region 2
          refine .cond (t := false) (by simp) (.skip ?_)
          exact ⟨_, View.norm _ [1, 2, 3, 7] [0] 1 1 (by simp), hb, 1, rfl⟩
    · rintro st ⟨hbad, G1, rfl⟩
      have hrT : ∀ f, t.rs.length - p.length = f + 1 → ringsT t (t.rs.length - p.length) p s = (List.range t.rs.length).all fun k => decide ((k : Int) ∈ p) || stepBad t p k || ringsT t f (p ++ [(k : Int)]) (nextSum t p s k) := by
        intro f hf
        rw [hf, ringsT, hbad]; rfl
      obtain ⟨g, hg⟩ : ∃ g : Nat → Bool, g = fun (k : Nat) => decide ((k : Int) ∈ p) || stepBad t p k || ringsT t (t.rs.length - (p.length + 1)) (p ++ [(k : Int)]) (nextSum t p s k) := ⟨_, rfl⟩
      have hall : ringsT t (t.rs.length - p.length) p s = (List.range t.rs.length).all g := by
        by_cases hlt : p.length < t.rs.length
        · rw [hrT (t.rs.length - (p.length + 1)) (by omega), hg]
        · have h0 : t.rs.length - p.length = 0 := by omega
          rw [h0, ringsT, hbad]
          symm
          simp only [Bool.not_false, List.all_eq_true, List.mem_range]
          intro k hk
          have : (k : Int) ∈ p := Decidable.by_contra fun hnm => by have := (ok_snoc hok hk hnm).2; omega
          rw [hg]
          simp [this]
      rw [hall]
      refine .seq ?_
      refine .step hX (by kernel_rfl) (by simp; exact rfl) (.block ?_) -- region 4
      refine .loopV (fun m st => ∃ (i G : Nat), m = t.rs.length - i ∧ i ≤ t.rs.length ∧ (List.range i).all g = true ∧ st = ⟨[(1, .il (ints p) e1), (2, .int .i64 s), (3, .ptr 0 0 0 0), (7, .int .i64 n), (56, .il (pairs t.rs) ex), (57, .int .i64 t.rs.length), (58, .int .i64 i)], [(0, some (.row 3 [tideC t ex] 0 true))], 1, G⟩) ?_ (View.norm _ [1, 2, 3, 7, 56, 57, 58] [0] 1 G1 (by simp)) ⟨0, G1, rfl, Nat.zero_le _, rfl, by simp⟩
      rintro m st ⟨i, G2, hm, hi, hgi, rfl⟩
      have hw1 : IntKind.i64.wrap ((i : Int) + 1) = (i : Int) + 1 := wrap64 (by omega) (by omega)
      refine .step hX (by kernel_rfl) (by simp; exact rfl) ?_ -- region 5
      refine .seq ?_
      refine .cond_split (by simp; exact rfl) (fun hc => ?_) (fun hc => ?_) -- t59
      · have hil : i < t.rs.length := by simpa using hc
        obtain ⟨x, hx⟩ : ∃ x, t.rs[i]? = some x := ⟨_, List.getElem?_eq_getElem hil⟩
        have hxe : t.rs[i] = x := by rw [List.getElem?_eq_getElem hil] at hx; simpa using hx
        have hxr : rd t (i : Int) = x := by simp [rd, hx]
        have hnext : g i = true → (List.range (i + 1)).all g = true := fun h => by
          rw [List.range_succ, List.all_append, hgi]; simp [h]
        have hfail : g i = false → (List.range t.rs.length).all g = false := fun h => by
          rw [List.all_eq_false]
          exact ⟨i, List.mem_range.2 hil, by rw [h]; simp⟩
        refine .skip (.seq (.block ?_))
        refine .step hX (by kernel_rfl) (by simp [hil, hxe, okp]; exact rfl) ?_ -- region 6
        refine .step hX (by kernel_rfl) (by simp; exact rfl) ?_ -- region 7
        refine .seq (.step hX (by kernel_rfl) (by simp [hn]; exact rfl) (.block ?_)) -- region 8
        refine .loopV (fun m st => ∃ (j G : Nat), m = n - j ∧ j ≤ n ∧ st = ⟨[(1, .il (ints p) e1), (2, .int .i64 s), (3, .ptr 0 0 0 0), (7, .int .i64 n), (8, .int .i64 i), (9, .ptr 1 G2 0 0), (10, .bool (decide ((i : Int) ∈ p.take j))), (56, .il (pairs t.rs) ex), (57, .int .i64 t.rs.length), (58, .int .i64 i), (63, .il (ints p) e1), (64, .int .i64 n), (65, .int .i64 j)], [(0, some (.row 3 [tideC t ex] 0 true)), (1, some (.row 2 [[.int .i64 x.1, .int .i64 x.2]] G2 true))], 2, G⟩) ?_ (View.norm _ [1, 2, 3, 7, 8, 9, 10, 56, 57, 58, 63, 64, 65] [0, 1] 2 (G2 + 1) (by simp)) ⟨0, G2 + 1, rfl, Nat.zero_le _, by simp⟩
        rintro m st ⟨j, G3, hm2, hj, rfl⟩
        refine .step hX (by kernel_rfl) (by simp; exact rfl) ?_ -- region 9
        refine .seq ?_
        refine .cond_split (by simp; exact rfl) (fun hc => ?_) (fun hc => ?_) -- t66
        · have hjn : j < n := by simpa using hc
          obtain ⟨y, hy⟩ : ∃ y, p[j]? = some y := ⟨_, List.getElem?_eq_getElem (by omega)⟩
          have hye : p[j]'(by omega) = y := by rw [List.getElem?_eq_getElem (by omega)] at hy; simpa using hy
          have hjp : j < p.length := by omega
          have htk : p.take (j + 1) = p.take j ++ [y] := by rw [List.take_add_one, hy]; rfl
          have hw2 : IntKind.i64.wrap ((j : Int) + 1) = (j : Int) + 1 := wrap64 (by omega) (by omega)
          refine .skip (.seq (.block ?_))
          refine .step hX (by kernel_rfl) (by simp [hn, hjn, hjp, hye, hy, okr]; exact rfl) ?_ -- region 10
          by_cases hmem : (i : Int) ∈ p.take j
          · have hmem2 : (i : Int) ∈ p.take (j + 1) := by rw [htk]; exact List.mem_append_left _ hmem
            refine .region hX (by kernel_rfl) (by simp [hmem]; exact rfl) ?_ -- region 11
            refine .region hX (by kernel_rfl) (by simp [hw2]; exact rfl) ?_ -- region 12
            refine ⟨_, _, View.norm _ [1, 2, 3, 7, 8, 9, 10, 56, 57, 58, 63, 64, 65] [0, 1] 2 G3 (by simp), ?_, j + 1, G3, rfl, hjn, by simp [hmem2]⟩
            omega
          · have hmem2 : decide ((i : Int) ∈ p.take (j + 1)) = (y == (i : Int)) := by
              rw [htk]
              by_cases hyi : y = (i : Int)
              · simp [hyi]
              · have hyi' : ¬ (i : Int) = y := fun q => hyi q.symm
                simp [hmem, hyi, hyi']
            refine .region hX (by kernel_rfl) (by simp [hmem]; exact rfl) ?_ -- region 11
            refine .region hX (by kernel_rfl) (by simp [hw2]; exact rfl) ?_ -- region 12
            refine ⟨_, _, View.norm _ [1, 2, 3, 7, 8, 9, 10, 56, 57, 58, 63, 64, 65] [0, 1] 2 G3 (by simp), ?_, j + 1, G3, rfl, hjn, by rw [hmem2]; simp⟩
            omega
        · have hjn : p.length ≤ j := by
            have : ¬ j < n := by simpa using hc
            omega
          rw [List.take_of_length_le hjn]
          refine .exit ?_ -- 2
          refine .seq ?_
          refine .step hX (by kernel_rfl) (by simp; exact rfl) ?_ -- region 13
          by_cases hmem : (i : Int) ∈ p
          · have hgt : g i = true := by rw [hg]; simp [hmem]
            refine .cond (t := true) (by simp [hmem]) (.exit ?_)
            refine .region hX (by kernel_rfl) (by simp [hw1]; exact rfl) ?_ -- region 22
            refine ⟨_, _, View.norm _ [1, 2, 3, 7, 56, 57, 58] [0] 1 G3 (by simp), ?_, i + 1, G3, rfl, hil, hnext hgt, by simp⟩
            omega
          · obtain ⟨hok2, hlt2⟩ := ok_snoc hok hil hmem
            refine .cond (t := false) (by simp [hmem]) (.skip ?_)
            refine .cutI (fun st => stepBad t p i = false ∧ ∃ G1, st = ⟨[(1, .il (ints p) e1), (2, .int .i64 s), (3, .ptr 0 0 0 0), (7, .int .i64 n), (8, .int .i64 i), (9, .ptr 1 G2 0 0), (56, .il (pairs t.rs) ex), (57, .int .i64 t.rs.length), (58, .int .i64 i)], [(0, some (.row 3 [tideC t ex] 0 true)), (1, some (.row 2 [[.int .i64 x.1, .int .i64 x.2]] G2 true))], 2, G1⟩) ?_ ?_
            · by_cases hp0 : p = []
              · have hn0 : n = 0 := by rw [← hn, hp0]; rfl
                have hsb : stepBad t p i = false := by simp [stepBad, hp0]
                refine .step hX (by kernel_rfl) (by simp [hn0]; exact rfl) ?_ -- region 14
                refine .cond (t := false) (by simp) (.skip ?_)
                exact ⟨_, View.norm _ [1, 2, 3, 7, 8, 9, 56, 57, 58] [0, 1] 2 G3 (by simp), hsb, G3, by simp [hn0]⟩
              · obtain ⟨p0, pl, x0, xl, hpos, a1, a2, a3, a4, a5, a6, a7, a8⟩ := last hp0
                have a2' : p[n - 1]'(by omega) = pl := by rw [List.getElem?_eq_getElem (by omega)] at a2; simpa using a2
                have a6' : t.rs[pl.toNat]'(by omega) = xl := by rw [List.getElem?_eq_getElem (by omega)] at a6; simpa using a6
                have b1 : (0 : Int) ≤ (n : Int) - 1 := by omega
                have b2 : (n : Int) - 1 < n := by omega
                have b3 : ((n : Int) - 1).toNat = n - 1 := by omega
                have b4 : (0 : Int) < n := by omega
                have b5 : (1 : Int) ≤ n := by omega
                have b6 : 1 ≤ n := hpos
                refine .step hX (by kernel_rfl) (by simp [hpos]; exact rfl) ?_ -- region 14
                refine .cond (t := true) (by simp) ?_
                refine .draw mixed hX (by kernel_rfl) (by kernel_rfl) rfl (by simp [hpos, hn, okr, okp, a2, a4.1, a4.2, a6, a2', a6', b1, b2, b3, b4, b5, b6, wN]; exact ⟨rfl, rfl⟩) (looseB_spec (by kernel_rfl)) ?_ -- region 15
                by_cases hodd : n % 2 = 1
                · have hm : (n : Int).tmod 2 = 1 := by rw [htm, hodd]; rfl
                  by_cases he : x.1.tmod t.sun = xl.1.tmod t.sun
                  · have hsb : stepBad t p i = false := by
                      unfold stepBad
                      rw [hxr, a8, hn]
                      exact decide_eq_false fun q => by have := q.2; rw [if_pos hodd] at this; exact this he
                    refine .draw mixed hX (by kernel_rfl) (by kernel_rfl) rfl (by simp [hm, hz1, he]; exact ⟨rfl, rfl⟩) (looseB_spec (by kernel_rfl)) ?_ -- region 16
                    refine .cond (t := false) (by simp) (.skip ?_)
                    exact ⟨_, View.norm _ [1, 2, 3, 7, 8, 9, 56, 57, 58] [0, 1] 2 (G3 + 1) (by simp), hsb, G3 + 1, by simp⟩
                  · have hsb : stepBad t p i = true := by
                      unfold stepBad
                      rw [hxr, a8, hn]
                      exact decide_eq_true ⟨hp0, by rw [if_pos hodd]; exact he⟩
                    have hgt : g i = true := by rw [hg]; simp [hsb]
                    have heb : (x.1.tmod t.sun != xl.1.tmod t.sun) = true := by simpa using he
                    refine .draw mixed hX (by kernel_rfl) (by kernel_rfl) rfl (by simp [hm, hz1, heb]; exact ⟨rfl, rfl⟩) (looseB_spec (by kernel_rfl)) ?_ -- region 16
                    refine .cond (t := true) (by simp [he, heb]) (.exit ?_)
                    refine .region hX (by kernel_rfl) (by simp [hw1]; exact rfl) ?_ -- region 22
                    refine ⟨_, _, View.norm _ [1, 2, 3, 7, 56, 57, 58] [0] 1 (G3 + 1) (by simp), ?_, i + 1, G3 + 1, rfl, hil, hnext hgt, by simp⟩
                    omega
                · have hm : (n : Int).tmod 2 = 0 := by rw [htm, show n % 2 = 0 by omega]; rfl
                  by_cases he : x.1.tmod t.moon = xl.1.tmod t.moon
                  · have hsb : stepBad t p i = false := by
                      unfold stepBad
                      rw [hxr, a8, hn]
                      exact decide_eq_false fun q => by have := q.2; rw [if_neg hodd] at this; exact this he
                    refine .draw mixed hX (by kernel_rfl) (by kernel_rfl) rfl (by simp [hm, hz2, he]; exact ⟨rfl, rfl⟩) (looseB_spec (by kernel_rfl)) ?_ -- region 16
                    refine .cond (t := false) (by simp) (.skip ?_)
                    exact ⟨_, View.norm _ [1, 2, 3, 7, 8, 9, 56, 57, 58] [0, 1] 2 (G3 + 1) (by simp), hsb, G3 + 1, by simp⟩
                  · have hsb : stepBad t p i = true := by
                      unfold stepBad
                      rw [hxr, a8, hn]
                      exact decide_eq_true ⟨hp0, by rw [if_neg hodd]; exact he⟩
                    have hgt : g i = true := by rw [hg]; simp [hsb]
                    have heb : (x.1.tmod t.moon != xl.1.tmod t.moon) = true := by simpa using he
                    refine .draw mixed hX (by kernel_rfl) (by kernel_rfl) rfl (by simp [hm, hz2, heb]; exact ⟨rfl, rfl⟩) (looseB_spec (by kernel_rfl)) ?_ -- region 16
                    refine .cond (t := true) (by simp [he, heb]) (.exit ?_)
                    refine .region hX (by kernel_rfl) (by simp [hw1]; exact rfl) ?_ -- region 22
                    refine ⟨_, _, View.norm _ [1, 2, 3, 7, 56, 57, 58] [0] 1 (G3 + 1) (by simp), ?_, i + 1, G3 + 1, rfl, hil, hnext hgt, by simp⟩
                    omega
            · rintro st ⟨hsb, G4, rfl⟩
              obtain ⟨v, hv⟩ : ∃ v, v = if n % 2 = 1 then IntKind.i64.wrap (-x.2) else x.2 := ⟨_, rfl⟩
              have hns : nextSum t p s i = IntKind.i64.wrap (s + v) := by
                unfold nextSum
                rw [hxr, hn, hv]
              refine .step hX (by kernel_rfl) (by simp; exact rfl) ?_ -- region 17
              refine .cut ⟨[(1, .il (ints p) e1), (2, .int .i64 s), (3, .ptr 0 0 0 0), (7, .int .i64 n), (8, .int .i64 i), (14, .int .i64 v), (56, .il (pairs t.rs) ex), (57, .int .i64 t.rs.length), (58, .int .i64 i)], [(0, some (.row 3 [tideC t ex] 0 true))], 1, G4⟩ ?_ ?_
              · by_cases hodd : n % 2 = 1
                · have hm : (n : Int).tmod 2 = 1 := by rw [htm, hodd]; rfl
                  rw [hv, if_pos hodd]
                  refine .step hX (by kernel_rfl) (by simp [hm]; exact rfl) ?_ -- region 18
                  refine .cond (t := true) (by simp) ?_
                  refine .region hX (by kernel_rfl) (by simp; exact rfl) ?_ -- region 19
                  exact View.to [1, 2, 3, 7, 8, 14, 56, 57, 58] [0] 1 G4 (by simp) (by simp)
                · have hm : (n : Int).tmod 2 = 0 := by rw [htm, show n % 2 = 0 by omega]; rfl
                  rw [hv, if_neg hodd]
                  refine .step hX (by kernel_rfl) (by simp [hm]; exact rfl) ?_ -- region 18
                  refine .cond (t := false) (by simp) (.skip ?_)
                  exact View.to [1, 2, 3, 7, 8, 14, 56, 57, 58] [0] 1 G4 (by simp) (by simp)
              · have hcall : ∀ e nx G, ringsS k [tideA t ex, .il (ints p ++ [[.int .i64 i]]) e, .int .i64 (IntKind.i64.wrap (s + v))] nx G = valR nx G (.bool (ringsT t (t.rs.length - (p.length + 1)) (p ++ [(i : Int)]) (nextSum t p s i))) := by
                  intro e nx G
                  have := rings_at k t ex e (p ++ [(i : Int)]) (nextSum t p s i) ⟨hok2, by simp; omega⟩ nx G
                  rw [hns] at this ⊢
                  simpa using this
                have hgi2 : g i = ringsT t (t.rs.length - (p.length + 1)) (p ++ [(i : Int)]) (nextSum t p s i) := by
                  rw [hg]; simp [hmem, hsb]
                rw [← hgi2] at hcall
                have r1 : n * 8 ≤ room := by simp [room]; omega
                have r2 : (n + 1) * 8 ≤ room := by simp [room]; omega
                have r3 : p.length * 8 ≤ room := by simp [room]; omega
                have r4 : (p.length + 1) * 8 ≤ room := by simp [room]; omega
                have r5 : List.take (p.length + 1) (ints p ++ [[AVal.int .i64 i]]) = ints p ++ [[.int .i64 i]] := List.take_of_length_le (by simp)
                refine .draw mixed hX (by kernel_rfl) (by kernel_rfl) rfl (by simp [elems, appR, okr, r3, r4, r5, hcall]; first | exact ⟨rfl, rfl⟩ | exact rfl) (looseB_spec (by kernel_rfl)) ?_ -- region 20
                cases hgv : g i with
                | false =>
                  rw [hfail hgv]
                  refine .cond (t := true) (by simp) ?_
                  refine .step hX (by kernel_rfl) (by simp; exact rfl) ?_ -- region 21
                  exact .ret ⟨.inr rfl, one (by simp)⟩
                | true =>
                  refine .cond (t := false) (by simp) (.skip ?_)
                  refine .region hX (by kernel_rfl) (by simp [hw1]; exact rfl) ?_ -- region 22
                  refine ⟨_, _, View.norm _ [1, 2, 3, 7, 56, 57, 58] [0] 1 (G4 + 6) (by simp), ?_, i + 1, G4 + 6, rfl, hil, hnext hgv, by simp⟩
                  omega
      · have hil : i = t.rs.length := by
          have : ¬ i < t.rs.length := by simpa using hc
          omega
        rw [hil] at hgi
        rw [hgi]
        refine .exit ?_ -- 0
        refine .step hX (by kernel_rfl) (by simp; exact rfl) ?_ -- region 23
        exact .ret ⟨.inr rfl, one (by simp)⟩

end Go.Proofs.Ytlidakhdcnkabaa

namespace Go.Proofs.Ytlidakhdcnkabaa
open Go.AI

theorem nextSum_odd {t : Tide} {p : List Int} {s : Int} {k : Nat} (h : p.length % 2 = 1) : nextSum t p s k = IntKind.i64.wrap (s - (rd t k).2) := by
  unfold nextSum
  rw [if_pos h, wrap_add_wrap]; rfl
theorem nextSum_even {t : Tide} {p : List Int} {s : Int} {k : Nat} (h : ¬ p.length % 2 = 1) : nextSum t p s k = IntKind.i64.wrap (s + (rd t k).2) := by
  unfold nextSum
  rw [if_neg h]

theorem last_app (p : List Int) (k : Int) : (p ++ [k]).getD ((p ++ [k]).length - 1) 0 = k := by
  rw [List.getD_eq_getElem?_getD, List.getElem?_append_right (by simp)]
  simp
theorem first_app {p : List Int} (k : Int) (h : p ≠ []) : (p ++ [k]).getD 0 0 = p.getD 0 0 := by
  cases p with
  | nil => exact absurd rfl h
  | cons a p => rfl

/-- What a path's sum is worth. -/
def Worth (t : Tide) (f : Node → Int) (p : List Int) (s : Int) : Prop :=
  inR s ∧ ((p = [] ∧ s = 0) ∨ (p ≠ [] ∧ eqv s (f (mN t (rd t (p.getD 0 0))) + if p.length % 2 = 1 then f (sN t (rd t (p.getD (p.length - 1) 0))) else -f (mN t (rd t (p.getD (p.length - 1) 0))))))

theorem worth_good {t : Tide} {f : Node → Int} {p : List Int} {s : Int} (h : Worth t f p s) : badR t p s = false := by
  unfold badR
  refine decide_eq_false ?_
  rintro ⟨h1, h2, h3, h4⟩
  obtain ⟨hr, h | ⟨_, h⟩⟩ := h
  · exact h1 h.1
  · rw [if_neg (by omega)] at h
    have hm : mN t (rd t (p.getD 0 0)) = mN t (rd t (p.getD (p.length - 1) 0)) := by rw [mN, mN, h3]
    rw [hm] at h
    refine h4 (eqv_eq ?_ hr (by unfold inR; omega))
    generalize f (mN t (rd t (p.getD (p.length - 1) 0))) = z at *
    unfold eqv at *
    omega

theorem worth_next {t : Tide} {f : Node → Int} (hf : FitsF t f) {p : List Int} {s : Int} (h : Worth t f p s) {k : Nat} (hk : k < t.rs.length) (hsb : stepBad t p k = false) : Worth t f (p ++ [(k : Int)]) (nextSum t p s k) := by
  have hx : rd t (k : Int) ∈ t.rs := by
    simp only [rd]
    rw [List.getD_eq_getElem?_getD, List.getElem?_eq_getElem (by omega)]
    exact List.getElem_mem _
  have hfx := hf _ hx
  have hsb' := of_decide_eq_false hsb
  obtain ⟨hr, h | ⟨hne, h⟩⟩ := h
  · obtain ⟨h1, h2⟩ := h
    subst h1
    have hn := nextSum_even (t := t) (p := []) (s := s) (k := k) (by simp)
    rw [hn]
    refine ⟨wrap_range _, .inr ⟨by simp, ?_⟩⟩
    have g := wrap_eqv (s + (rd t k).2)
    rw [last_app]
    simp only [List.nil_append, List.length_singleton, List.getD_cons_zero, if_true]
    generalize IntKind.i64.wrap (s + (rd t k).2) = w at *
    generalize f (sN t (rd t (k : Int))) = a at *
    generalize f (mN t (rd t (k : Int))) = b at *
    unfold eqv at *
    omega
  · by_cases hodd : p.length % 2 = 1
    · rw [if_pos hodd] at h
      have hs : (rd t (k : Int)).1.tmod t.sun = (rd t (p.getD (p.length - 1) 0)).1.tmod t.sun := Decidable.by_contra fun q => hsb' ⟨hne, by rw [if_pos hodd]; exact q⟩
      have hm : sN t (rd t (p.getD (p.length - 1) 0)) = sN t (rd t (k : Int)) := by rw [sN, sN, hs]
      rw [hm] at h
      rw [nextSum_odd hodd]
      refine ⟨wrap_range _, .inr ⟨by simp, ?_⟩⟩
      have g := wrap_eqv (s - (rd t k).2)
      rw [last_app, first_app _ hne, if_neg (by simp; omega)]
      generalize IntKind.i64.wrap (s - (rd t k).2) = w at *
      generalize f (sN t (rd t (k : Int))) = a at *
      generalize f (mN t (rd t (k : Int))) = b at *
      generalize f (mN t (rd t (p.getD 0 0))) = c at *
      unfold eqv at *
      omega
    · rw [if_neg hodd] at h
      have hs : (rd t (k : Int)).1.tmod t.moon = (rd t (p.getD (p.length - 1) 0)).1.tmod t.moon := Decidable.by_contra fun q => hsb' ⟨hne, by rw [if_neg hodd]; exact q⟩
      have hm : mN t (rd t (p.getD (p.length - 1) 0)) = mN t (rd t (k : Int)) := by rw [mN, mN, hs]
      rw [hm] at h
      rw [nextSum_even hodd]
      refine ⟨wrap_range _, .inr ⟨by simp, ?_⟩⟩
      have g := wrap_eqv (s + (rd t k).2)
      rw [last_app, first_app _ hne, if_pos (by simp; omega)]
      generalize IntKind.i64.wrap (s + (rd t k).2) = w at *
      generalize f (sN t (rd t (k : Int))) = a at *
      generalize f (mN t (rd t (k : Int))) = b at *
      generalize f (mN t (rd t (p.getD 0 0))) = c at *
      unfold eqv at *
      omega

theorem rings_fits {t : Tide} {f : Node → Int} (hf : FitsF t f) : ∀ (n : Nat) (p : List Int) (s : Int), Worth t f p s → ringsT t n p s = true
  | 0, p, s, h => by rw [ringsT, worth_good h]; rfl
  | n + 1, p, s, h => by
    rw [ringsT, worth_good h]
    simp only [Bool.not_false, Bool.true_and, List.all_eq_true, List.mem_range, Bool.or_eq_true]
    intro k hk
    by_cases h1 : stepBad t p k = true
    · exact .inl (.inr h1)
    · exact .inr (rings_fits hf n _ _ (worth_next hf h hk (by simpa using h1)))

/-- A ring that is accepted is found. -/
theorem rings_ring (t : Tide) : ∀ (l p : List Int) (n : Nat) (s : Int), l.length ≤ n → (p ++ l).Nodup → (p.length + l.length) % 2 = 0 → p ++ l ≠ [] →
    rVerL t (decide (p = [])) (decide (p.length % 2 = 1)) (rd t (p.getD 0 0)) (rd t (p.getD (p.length - 1) 0)) s l = 0 → ringsT t n p s = false
  | [], p, n, s, _, _, hev, hne, h => by
    have hne' : p ≠ [] := by simpa using hne
    have hb : badR t p s = true := by
      unfold badR
      refine decide_eq_true ?_
      simp only [rVerL] at h
      split at h
      · omega
      · rename_i h1
        split at h
        · omega
        · rename_i h2
          exact ⟨hne', by simpa using hev, Decidable.not_not.1 h1, h2⟩
    cases n with
    | zero => simp [ringsT, hb]
    | succ n => simp [ringsT, hb]
  | i :: l, p, n, s, hl, hnd, hev, _, h => by
    cases n with
    | zero => simp at hl
    | succ n =>
      have hr : 0 ≤ i ∧ i ≤ (t.rs.length : Int) - 1 := by
        rw [rVerL] at h
        split at h
        · assumption
        · omega
      have hk : i = ((i.toNat : Nat) : Int) := by omega
      have hmem : i ∉ p := by
        rw [List.nodup_append] at hnd
        exact fun q => hnd.2.2 i q i List.mem_cons_self rfl
      have hkl : i.toNat < t.rs.length := by omega
      have hx : t.rs[i.toNat]? = some (rd t i) := by
        simp only [rd]
        rw [List.getD_eq_getElem?_getD, List.getElem?_eq_getElem hkl]; rfl
      have hrec : stepBad t p i.toNat = false ∧ rVerL t (decide (p ++ [i] = [])) (decide ((p ++ [i]).length % 2 = 1)) (rd t ((p ++ [i]).getD 0 0)) (rd t ((p ++ [i]).getD ((p ++ [i]).length - 1) 0)) (nextSum t p s i.toNat) l = 0 := by
        have e1 : decide (p ++ [i] = []) = false := by simp
        rw [last_app, e1, hk] 
        by_cases hodd : p.length % 2 = 1
        · have hne : p ≠ [] := by intro q; rw [q] at hodd; simp at hodd
          have e2 : decide ((p ++ [((i.toNat : Nat) : Int)]).length % 2 = 1) = false := decide_eq_false (by simp; omega)
          rw [e2, first_app _ hne, nextSum_odd hodd]
          rw [decide_eq_true hodd, decide_eq_false hne] at h
          rw [rVerL, if_pos hr] at h
          simp only [if_true, Bool.false_eq_true, if_false] at h
          split at h
          · omega
          · rename_i he
            refine ⟨decide_eq_false fun q => ?_, by rw [← hk]; exact h⟩
            have := q.2
            rw [if_pos hodd, ← hk] at this
            exact he this
        · have e2 : decide ((p ++ [((i.toNat : Nat) : Int)]).length % 2 = 1) = true := decide_eq_true (by simp; omega)
          rw [e2, nextSum_even hodd]
          rw [decide_eq_false hodd] at h
          rw [rVerL, if_pos hr] at h
          simp only [Bool.false_eq_true, if_false] at h
          split at h
          · omega
          · rename_i he
            by_cases hp : p = []
            · subst hp
              refine ⟨by simp [stepBad], ?_⟩
              have hmax : max i 0 = i := by omega
              rw [← hk]
              simpa [hmax] using h
            · rw [first_app _ hp]
              rw [decide_eq_false hp] at h he
              simp only [Bool.false_eq_true, if_false] at h
              refine ⟨decide_eq_false fun q => ?_, by rw [← hk]; exact h⟩
              have := q.2
              rw [if_neg hodd, ← hk] at this
              exact he ⟨rfl, this⟩
      have hnd' : (p ++ [i] ++ l).Nodup := by rw [List.append_assoc]; exact hnd
      have ih := rings_ring t l (p ++ [i]) n _ (by simpa using hl) hnd' (by simp only [List.length_append, List.length_singleton]; simp only [List.length_cons] at hev; omega) (by simp) hrec.2
      rw [ringsT]
      have : (List.range t.rs.length).all (fun k : Nat => decide ((k : Int) ∈ p) || stepBad t p k || ringsT t n (p ++ [(k : Int)]) (nextSum t p s k)) = false := by
        rw [List.all_eq_false]
        refine ⟨i.toNat, List.mem_range.2 hkl, ?_⟩
        rw [← hk, ih, hrec.1]
        simp [hmem]
      rw [this]
      simp

/-- Every contradiction shows in a ring of different readings. -/
theorem ways_labels {t : Tide} {rk : Node → Nat} (h : Tree t rk) {n c : Node} {l : List Int} (hw : Way t n l c) : n ∈ allNodes t → l = (trail t n l).map fun u => (solE t u).r := by
  induction hw with
  | nil n => exact fun _ => rfl
  | cons n l c h0 hw ih =>
    intro hn
    obtain ⟨h1, _⟩ := Way.from_mem h hn h0
    simp only [trail, List.map_cons]
    rw [← ih h1]

theorem trail_low {t : Tide} {n c : Node} {l : List Int} (hw : Way t n l c) : ∀ u ∈ trail t n l, 0 ≤ (solE t u).r := by
  induction hw with
  | nil n => intro u hu; simp [trail] at hu
  | cons n l c h0 hw ih =>
    intro u hu
    simp only [trail, List.mem_cons] at hu
    rcases hu with rfl | hu
    · exact h0
    · exact ih u hu

theorem label_inj {t : Tide} {rk : Node → Nat} (h : Tree t rk) {u v : Node} (hu : u ∈ allNodes t) (hv : v ∈ allNodes t) (h0 : 0 ≤ (solE t u).r) (he : (solE t u).r = (solE t v).r) : u = v := by
  rcases h.up u hu with ⟨p, _⟩ | ⟨_, r1, _, i, x, p1, p2, p3, _⟩
  · omega
  · rcases h.up v hv with ⟨q, _⟩ | ⟨_, r2, _, j, y, q1, q2, q3, _⟩
    · omega
    · have hij : i = j := by omega
      subst hij
      rw [p2] at q2
      simp only [Option.some.injEq] at q2
      subst q2
      rcases p3 with ⟨p3, p4⟩ | ⟨p3, p4⟩ <;> rcases q3 with ⟨q3, q4⟩ | ⟨q3, q4⟩
      · rw [p3, q3]
      · exfalso
        have e1 : (solE t u).from_ = v := by rw [p4, q3]
        have e2 : (solE t v).from_ = u := by rw [q4, p3]
        rw [e1] at r1; rw [e2] at r2; omega
      · exfalso
        have e1 : (solE t u).from_ = v := by rw [p4, q3]
        have e2 : (solE t v).from_ = u := by rw [q4, p3]
        rw [e1] at r1; rw [e2] at r2; omega
      · rw [p3, q3]

theorem nodup_map_on {α β : Type} {f : α → β} : ∀ {l : List α}, l.Nodup → (∀ a ∈ l, ∀ b ∈ l, f a = f b → a = b) → (l.map f).Nodup
  | [], _, _ => by simp
  | a :: l, h, hf => by
    simp only [List.nodup_cons] at h
    simp only [List.map_cons, List.nodup_cons]
    refine ⟨fun hm => ?_, nodup_map_on h.2 fun x hx y hy => hf x (List.mem_cons_of_mem _ hx) y (List.mem_cons_of_mem _ hy)⟩
    obtain ⟨b, hb, e⟩ := List.mem_map.1 hm
    have := hf b (List.mem_cons_of_mem _ hb) a List.mem_cons_self e
    exact h.1 (this ▸ hb)

/-- The ring that contradicts itself, without a reading twice. -/
theorem clash_nodup {t : Tide} (hc : checkT t = 0) (hi : ¬ badIx (solve t) t 0 t.rs < 0) : ∃ ring : List Int, ring.Nodup ∧ rVerifyT t ring = 0 := by
  have hok := check_ok hc
  obtain ⟨rk, hT⟩ := solve_tree hok
  obtain ⟨i, x, h1, h2, h3⟩ := badIx_at _ _ _ _ hi
  obtain ⟨ring, hcl, hver⟩ := clash_ring hc hi
  rw [Nat.zero_add] at h1
  have hx := List.mem_of_getElem? h2
  obtain ⟨hs, hm⟩ := ends_mem hok hx
  obtain ⟨a, a1, a2⟩ := way_some hT 200 _ hs (by have := hT.low _ hs; omega)
  obtain ⟨b, b1, b2⟩ := way_some hT 200 _ hm (by have := hT.low _ hm; omega)
  have heven : (solE t (sN t x)).root = (solE t (mN t x)).root := (solve_asg hok).even x hx
  rw [← heven] at b2
  obtain ⟨c, c1, c2, c3⟩ := strip_ways hT hs hm a.length a b _ rfl a2 b2
  have hg : t.rs.getD (i : Int).toNat (0, 0) = x := by simp [h2]
  have hring : ring = (i : Int) :: ((strip a.length a b).1 ++ (strip a.length a b).2.reverse) := by
    unfold clashT at hcl
    rw [if_neg (by rw [hc]; simp)] at hcl
    simp only at hcl
    rw [if_neg hi, h1, hg] at hcl
    have a1' : wayL (solve t) 200 (0, x.1.tmod t.sun) = some a := a1
    have b1' : wayL (solve t) 200 (1, x.1.tmod t.moon) = some b := b1
    rw [a1', b1'] at hcl
    simp only [Option.some.injEq, Prod.mk.injEq, and_true] at hcl
    exact hcl.symm
  refine ⟨ring, ?_, hver⟩
  rw [hring]
  generalize (strip a.length a b).1 = p at *
  generalize (strip a.length a b).2 = q at *
  obtain ⟨p1, p2⟩ := c1.trail_rank hT hs
  obtain ⟨q1, q2⟩ := c2.trail_rank hT hm
  have key : (trail t (sN t x) p ++ trail t (mN t x) q).Nodup := by
    rw [List.nodup_append]
    refine ⟨p2, q2, fun u hu v hv e => ?_⟩
    subst e
    obtain ⟨l1, l2, e1, n1, w1⟩ := c1.split u hu
    obtain ⟨l3, l4, e2, n2, w2⟩ := c2.split u hv
    have := w1.unique hT (p1 u hu).1 w2
    subst this
    refine c3 ⟨?_, ?_, ?_⟩
    · rw [e1, List.length_append]; have := List.length_pos_iff.2 n1; omega
    · rw [e2, List.length_append]; have := List.length_pos_iff.2 n1; omega
    · rw [e1, e2, getLast_app n1, getLast_app n1]
  have hall : ∀ u ∈ trail t (sN t x) p ++ trail t (mN t x) q, u ∈ allNodes t ∧ 0 ≤ (solE t u).r := fun u hu => by
    rcases List.mem_append.1 hu with hu | hu
    · exact ⟨(p1 u hu).1, trail_low c1 u hu⟩
    · exact ⟨(q1 u hu).1, trail_low c2 u hu⟩
  have hnd : (p ++ q).Nodup := by
    have := nodup_map_on (f := fun u => (solE t u).r) key fun u hu v hv e => label_inj hT (hall u hu).1 (hall v hv).1 (hall u hu).2 e
    rw [List.map_append, ← ways_labels hT c1 hs, ← ways_labels hT c2 hm] at this
    exact this
  have hni : (i : Int) ∉ p ++ q := by
    intro hmem
    have hmem' : (i : Int) ∈ (trail t (sN t x) p ++ trail t (mN t x) q).map fun u => (solE t u).r := by
      rw [List.map_append, ← ways_labels hT c1 hs, ← ways_labels hT c2 hm]; exact hmem
    obtain ⟨u, hu, e⟩ := List.mem_map.1 hmem'
    rcases hT.up u (hall u hu).1 with ⟨z, _⟩ | ⟨_, _, _, j, y, r1, r2, r3, r4⟩
    · omega
    · have hij : i = j := by omega
      subst hij
      rw [h2] at r2
      simp only [Option.some.injEq] at r2
      subst r2
      have g := wrap_eqv (x.2 - (solE t (solE t u).from_).w)
      rw [← r4] at g
      have hbad : ¬ eqv ((solE t (sN t x)).w + (solE t (mN t x)).w) x.2 := by
        intro hh
        have := (wrap_iff (check_v hc x hx)).2 hh
        simp only [badAt, bne_iff_ne, ne_eq] at h3
        exact h3 this
      refine hbad ?_
      rcases r3 with ⟨r3, r5⟩ | ⟨r3, r5⟩
      · rw [r5, r3] at g
        generalize (solE t (sN t x)).w = u at *
        generalize (solE t (mN t x)).w = v at *
        unfold eqv at *
        omega
      · rw [r5, r3] at g
        generalize (solE t (sN t x)).w = u at *
        generalize (solE t (mN t x)).w = v at *
        unfold eqv at *
        omega
  have hperm : (p ++ q.reverse).Perm (p ++ q) := List.Perm.append_left _ (List.reverse_perm q)
  rw [List.nodup_cons]
  exact ⟨fun hm => hni (hperm.mem_iff.1 hm), hperm.nodup_iff.2 hnd⟩

/-- All rings have the sum 0 just if the record fits. -/
theorem rings_iff {t : Tide} (hc : checkT t = 0) : ringsT t t.rs.length [] 0 = decide (rFitsT t = 0) := by
  have hw : Worth t (fun u => (solE t u).w) [] 0 := ⟨by unfold inR; omega, .inl ⟨rfl, rfl⟩⟩
  by_cases hi : badIx (solve t) t 0 t.rs < 0
  · have hf := (bad_fits (check_v hc)).1 hi
    rw [rings_fits hf _ _ _ hw]
    symm
    refine decide_eq_true ?_
    unfold rFitsT
    rw [if_neg (by rw [hc]; simp), if_pos ((same_fits (check_ok hc) (check_v hc)).2 hi)]
  · have hne : rFitsT t ≠ 0 := by
      unfold rFitsT
      rw [if_neg (by rw [hc]; simp), if_neg (fun q => hi ((same_fits (check_ok hc) (check_v hc)).1 q))]
      omega
    rw [decide_eq_false hne]
    obtain ⟨ring, hnd, hv⟩ := clash_nodup hc hi
    have hcl := claL_in t
    unfold rVerifyT at hv
    rw [if_neg (by rw [hc]; simp)] at hv
    split at hv
    case isFalse => omega
    rename_i hl
    have hin : ∀ j ∈ ring, inRs t j := by
      have := (verify_clashes hc (ring := ring) hl.1.2).1 (by unfold rVerifyT; rw [if_neg (by rw [hc]; simp), if_pos hl]; exact hv)
      unfold clashesT at this
      split at this
      · cases this
      · exact claL_in t _ _ _ _ this
    have hle := path_le hnd hin
    refine rings_ring t ring [] t.rs.length 0 hle (by simpa using hnd) (by simpa using hl.2) (by intro q; rw [List.nil_append] at q; rw [q] at hl; simp at hl) ?_
    match ring, hl, hv with
    | [], hl, _ => simp at hl
    | i :: l, hl, hv =>
      rw [rVerL] at hv ⊢
      simpa using hv

end Go.Proofs.Ytlidakhdcnkabaa
