/- The reference's solved. The reference's Check and Fits. The reference's Waves, Parts, Value, Follow. The reference's Parts, Value, Follow. No condition. -/
import Derived.Test.YtlidakhdcnkabaaM15
import Derived.Test.YtlidakhdcnkabaaM08
namespace Go.Proofs.Ytlidakhdcnkabaa
open Go.AI
set_option linter.unusedSimpArgs false

@[simp] theorem ti28 : tiOf Try.prog 28 = some ⟨3, true, .agg [.int .i64 0, .int .i64 0, .il [] true], 40, .strct [(0, 3, false), (1, 3, false), (2, 26, false)]⟩ := by kernel_rfl
@[simp] theorem ti26 : tiOf Try.prog 26 = some ⟨1, false, .il [] true, 24, .slice 69⟩ := by kernel_rfl
@[simp] theorem ti69 : tiOf Try.prog 69 = some ⟨2, true, .agg [.int .i64 0, .int .i64 0], 16, .strct [(0, 3, false), (1, 3, false)]⟩ := by kernel_rfl

abbrev PW := List Int × List Int

def rStep (t : Tide) (i : Nat) (v : PW) (x : Int × Int) : PW :=
  let s := (x.1.tmod t.sun).toNat
  let m := (t.sun + x.1.tmod t.moon).toNat
  let v1 : PW := if v.1.getD s 0 = i ∧ v.1.getD m 0 < 0 then (v.1.set m i, v.2.set m (IntKind.i64.wrap (x.2 - v.2.getD s 0))) else v
  if v1.1.getD m 0 = i ∧ v1.1.getD s 0 < 0 then (v1.1.set s i, v1.2.set s (IntKind.i64.wrap (x.2 - v1.2.getD m 0))) else v1

def rRound (t : Tide) (i : Nat) (v : PW) : PW := t.rs.foldl (rStep t i) v
def rRounds (t : Tide) (i : Nat) : Nat → PW → PW
  | 0, v => v
  | k + 1, v => rRounds t i k (rRound t i v)
def rNode (t : Tide) (n : Nat) (v : PW) (i : Nat) : PW := if 0 ≤ v.1.getD i 0 then v else rRounds t i n (v.1.set i i, v.2)
def rNodes (t : Tide) (n : Nat) (l : List Nat) (v : PW) : PW := l.foldl (rNode t n) v
def rSize (t : Tide) : Nat := (t.sun + t.moon).toNat
def rSolved (t : Tide) : PW := rNodes t (rSize t) (List.range (rSize t)) (List.replicate (rSize t) (-1), List.replicate (rSize t) 0)

/-- What a record must have so that its hours have nodes. -/
def rOk (t : Tide) : Prop := ((1 ≤ t.sun ∧ t.sun ≤ 30) ∧ 1 ≤ t.moon ∧ t.moon ≤ 30) ∧ ∀ x ∈ t.rs, 0 ≤ x.1
instance (t : Tide) : Decidable (rOk t) := by unfold rOk; infer_instance

def rLen (n : Nat) (v : PW) : Prop := v.1.length = n ∧ v.2.length = n

theorem rStep_len {t : Tide} {i n : Nat} {v : PW} {x : Int × Int} (h : rLen n v) : rLen n (rStep t i v x) := by
  obtain ⟨h1, h2⟩ := h
  unfold rStep rLen
  simp only
  split
  · split
    · simp [h1, h2]
    · simp [h1, h2]
  · split
    · simp [h1, h2]
    · exact ⟨h1, h2⟩

theorem rRound_len {t : Tide} {i n : Nat} {v : PW} (h : rLen n v) : rLen n (rRound t i v) := by
  unfold rRound
  generalize t.rs = l
  induction l generalizing v with
  | nil => exact h
  | cons x l ih => exact ih (rStep_len h)

theorem rRounds_len {t : Tide} {i n : Nat} : ∀ (k : Nat) {v : PW}, rLen n v → rLen n (rRounds t i k v)
  | 0, _, h => h
  | k + 1, _, h => rRounds_len k (rRound_len h)

def refSolvedS : FSpec := fun xs nx G => match xs with
  | [r] => ofOpt (asTide r) fun t => if rOk t then .ret ⟨.tup [.sl nx G 0 (rSize t), .sl (nx + 1) (G + 1) 0 (rSize t)], [(nx, some (.row 1 (ints (rSolved t).1) G true)), (nx + 1, some (.row 1 (ints (rSolved t).2) (G + 1) true))], nx + 2, G + 2⟩ else .fail
  | _ => .fail

theorem node_of {t : Tide} (h : rOk t) {x : Int × Int} (hx : 0 ≤ x.1) : ∃ s m : Nat, x.1.tmod t.sun = s ∧ t.sun + x.1.tmod t.moon = m ∧ s < m ∧ s < rSize t ∧ m < rSize t ∧ x.1.tmod t.moon + t.sun = m := by
  obtain ⟨⟨h1, h2⟩, _⟩ := h
  have e1 : x.1.tmod t.sun = x.1 % t.sun := Int.tmod_eq_emod_of_nonneg hx
  have e2 : x.1.tmod t.moon = x.1 % t.moon := Int.tmod_eq_emod_of_nonneg hx
  have a1 := Int.emod_nonneg x.1 (by omega : t.sun ≠ 0)
  have a2 := Int.emod_lt_of_pos x.1 (by omega : 0 < t.sun)
  have b1 := Int.emod_nonneg x.1 (by omega : t.moon ≠ 0)
  have b2 := Int.emod_lt_of_pos x.1 (by omega : 0 < t.moon)
  rw [e1, e2]
  unfold rSize
  exact ⟨(x.1 % t.sun).toNat, (t.sun + x.1 % t.moon).toNat, by omega, by omega, by omega, by omega, by omega, by omega⟩

theorem gD {l : List Int} {i n : Nat} (h : l.length = n) (hi : i < n) : ∃ x, l[i]? = some x ∧ l.getD i 0 = x := ⟨l.getD i 0, getD_of (by omega), rfl⟩

theorem ints_set (l : List Int) (i : Nat) (x : Int) : (ints l).set i [.int .i64 x] = ints (l.set i x) := List.map_set.symm

theorem Exec.len_tide {P : Program} {r0 : Option Nat} {N : Nat} {c : Code} {s : St} {Q : Exit → St → Prop} {t : Tide} {ex : Bool} (i : Nat) (hi : tget s.tmps i = tideA t ex) (h : t.rs.length ≤ maxLen → Exec P r0 N c s Q) : Exec P r0 N c s Q := by
  constructor
  intro n C a hr
  have h1 := hr.tmps i
  rw [hi] at h1
  generalize a.tmps.getD i undef = v at h1
  cases h1 with
  | agg cs vs hl hrep =>
    obtain ⟨v, hv⟩ : ∃ v, vs[2]? = some v := ⟨vs[2]'(by simp at hl; omega), Array.getElem?_eq_getElem _⟩
    have h2 := hrep 2 _ v rfl hv
    generalize hes : (t.rs.map fun x : Int × Int => [AVal.int .i64 x.1, AVal.int .i64 x.2]) = es at h2
    cases h2 with
    | il es ex p cap B o sz vs hcap hex hmax hp hsz hv hc =>
      have : es.length = t.rs.length := by rw [← hes]; simp
      exact (h (by omega)).go n C a hr

abbrev rHeap (t : Tide) (ex : Bool) (v : PW) : AHeap := [(0, some (.row 3 [tideC t ex] 0 true)), (1, some (.row 1 (ints v.1) 1 true)), (2, some (.row 1 (ints v.2) 2 true))]

theorem rep_set (n j : Nat) (a b : Int) (h : j < n) : (List.replicate j a ++ List.replicate (n - j) b).set j a = List.replicate (j + 1) a ++ List.replicate (n - (j + 1)) b := by
  have e : n - j = (n - (j + 1)) + 1 := by omega
  rw [e, List.replicate_succ, List.set_append_right _ _ (by simp)]
  simp [List.replicate_succ']

theorem refSolved_sound : FSound Try.prog 45 refSolvedS := by
  refine fsound_pure Try.func45 (by kernel_rfl) rfl _ fun xs nx G d hp h => ?_
  unfold refSolvedS at h
  split at h
  · rename_i r
    replace h := rd_opt h; obtain ⟨t, ht, h⟩ := h
    obtain ⟨ex, rfl⟩ := asTide_some ht
    split at h
    · rename_i hok
      simp only [Rd.run, Option.some.injEq] at h
      subst h
      refine ⟨by simp [Try.f45], all1 (free_tide t ex), ?_⟩
      obtain ⟨⟨⟨a1, a2⟩, a3, a4⟩, hh⟩ := id hok
      obtain ⟨n, hn⟩ : ∃ n, rSize t = n := ⟨_, rfl⟩
      have hn60 : n ≤ 60 := by rw [← hn]; unfold rSize; omega
      have hsm : t.sun + t.moon = n := by rw [← hn]; unfold rSize; omega
      have hw0 : IntKind.i64.wrap (t.sun + t.moon) = n := by rw [hsm]; exact wrap64 (by omega) (by omega)
      have hroom : (n : Int) * 8 ≤ ((room : Nat) : Int) := by simp [room]; omega
      have hwj : ∀ j : Nat, j < 1000 → IntKind.i64.wrap ((j : Int) + 1) = (j : Int) + 1 := fun j h => wrap64 (by omega) (by omega)
      refine Exec.len_tide (ex := ex) (t := t) 0 (by simp) fun hb0 => ?_
      have hb : t.rs.length < 9223372036854775808 := by simp [maxLen] at hb0; omega
      refine .step X0.sound (by kernel_rfl) (by simp; exact rfl) ?_ -- region 0
      refine .step X0.sound (by kernel_rfl) (by simp [hw0]; exact rfl) ?_ -- region 1
      refine .draw mixed X0.sound (by kernel_rfl) (by kernel_rfl) rfl (by simp [hroom]; exact ⟨rfl, rfl⟩) (looseB_spec (by kernel_rfl)) ?_ -- region 2
      refine .seq (.step X0.sound (by kernel_rfl) (by simp; exact rfl) (.block ?_)) -- region 3
      refine .loopV (fun k st => ∃ j : Nat, j ≤ n ∧ k = n - j ∧ st = ⟨[(1, .ptr 0 0 0 0), (4, .int .i64 n), (5, .sl 1 1 0 n), (6, .sl 2 2 0 n), (7, .int .i64 j)], rHeap t ex (List.replicate j (-1) ++ List.replicate (n - j) 0, List.replicate n 0), 3, 3⟩) ?_ (View.norm _ [1, 4, 5, 6, 7] [0, 1, 2] 3 3 (by simp)) ⟨0, by omega, rfl, by simp⟩
      rintro k st ⟨j, hj, rfl, rfl⟩
      refine .seq (.step X0.sound (by kernel_rfl) (by simp; exact rfl) ?_) -- region 4
      refine .cond_split (by simp; exact rfl) (fun hc => ?_) (fun hc => ?_) -- t25
      · have hj' : j < n := by simpa using hc
        have hset := rep_set n j (-1) 0 hj'
        have hlen : (List.replicate j (-1 : Int) ++ List.replicate (n - j) 0).length = n := by simp; omega
        generalize List.replicate j (-1 : Int) ++ List.replicate (n - j) 0 = p at *
        obtain ⟨x, hx, _⟩ := gD hlen hj'
        refine .skip (.seq (.block ?_))
        refine .region X0.sound (by kernel_rfl) (by simp [hj', hx]; exact rfl) ?_ -- region 6
        refine .region X0.sound (by kernel_rfl) (by simp [hwj j (by omega)]; exact rfl) ?_ -- region 5
        refine ⟨_, _, View.norm _ [1, 4, 5, 6, 7] [0, 1, 2] 3 3 (by simp), ?_, j + 1, by omega, rfl, ?_⟩
        · omega
        · rw [← hset]
          simp [List.map_set]
      · have : n = j := by simp at hc; omega
        subst this
        refine .exit (.seq (.step X0.sound (by kernel_rfl) (by simp; exact rfl) (.block ?_))) -- region 7
        refine .loopV (fun k st => ∃ (i G : Nat) (v : PW), i ≤ n ∧ k = n - i ∧ rLen n v ∧ rNodes t n (List.range' i (n - i)) v = rSolved t ∧ st = ⟨[(1, .ptr 0 0 0 0), (4, .int .i64 n), (5, .sl 1 1 0 n), (6, .sl 2 2 0 n), (8, .int .i64 i)], rHeap t ex v, 3, G⟩) ?_ (View.norm _ [1, 4, 5, 6, 8] [0, 1, 2] 3 3 (by simp))
          ⟨0, 3, (List.replicate n (-1), List.replicate n 0), by omega, rfl, ⟨by simp, by simp⟩, by rw [rSolved, hn, List.range_eq_range']; rfl, by simp⟩
        rintro k st ⟨i, G1, v, hi, rfl, hlv, hres, rfl⟩
        refine .seq (.step X0.sound (by kernel_rfl) (by simp; exact rfl) ?_) -- region 8
        refine .cond_split (by simp; exact rfl) (fun hc => ?_) (fun hc => ?_) -- t33
        · have hi' : i < n := by simpa using hc
          have hran : List.range' i (n - i) = i :: List.range' (i + 1) (n - (i + 1)) := by
            have : n - i = (n - (i + 1)) + 1 := by omega
            rw [this, List.range'_succ]
          rw [hran, rNodes, List.foldl_cons, ← rNodes] at hres
          obtain ⟨pi, hpi, hpd⟩ := gD hlv.1 hi'
          refine .skip (.seq (.block ?_))
          refine .seq (.step X0.sound (by kernel_rfl) (by simp [hi', hpi]; exact rfl) ?_) -- region 10
          refine .cond_split (by simp; exact rfl) (fun hc => ?_) (fun hc => ?_) -- t40
          · have hp : 0 ≤ v.1.getD i 0 := by rw [hpd]; simpa using hc
            rw [rNode, if_pos hp] at hres
            refine .exit (.region X0.sound (by kernel_rfl) (by simp [hwj i (by omega)]; exact rfl) ?_) -- region 9
            refine ⟨_, _, View.norm _ [1, 4, 5, 6, 8] [0, 1, 2] 3 G1 (by simp), ?_, i + 1, G1, v, by omega, rfl, hlv, hres, ?_⟩
            · omega
            · simp
          · have hp : ¬ 0 ≤ v.1.getD i 0 := by rw [hpd]; simpa using hc
            rw [rNode, if_neg hp] at hres
            have hlu : rLen n (v.1.set i i, v.2) := ⟨by simp [hlv.1], hlv.2⟩
            refine .skip ?_
            refine .step X0.sound (by kernel_rfl) (by simp [hi', hpi]; exact rfl) ?_ -- region 11
            refine .step X0.sound (by kernel_rfl) (by simp; exact rfl) (.block ?_) -- region 12
            refine .loopV (fun k st => ∃ (q G : Nat) (u : PW), q ≤ n ∧ k = n - q ∧ rLen n u ∧ rRounds t i (n - q) u = rRounds t i n (v.1.set i i, v.2) ∧ st = ⟨[(1, .ptr 0 0 0 0), (4, .int .i64 n), (5, .sl 1 1 0 n), (6, .sl 2 2 0 n), (8, .int .i64 i), (9, .int .i64 q)], rHeap t ex u, 3, G⟩) ?_ (View.norm _ [1, 4, 5, 6, 8, 9] [0, 1, 2] 3 G1 (by simp))
              ⟨0, G1, (v.1.set i i, v.2), by omega, rfl, hlu, rfl, by simp [List.map_set]⟩
            rintro k st ⟨q, G2, u, hq, rfl, hlu2, hrr, rfl⟩
            refine .seq (.step X0.sound (by kernel_rfl) (by simp; exact rfl) ?_) -- region 13
            refine .cond_split (by simp; exact rfl) (fun hc => ?_) (fun hc => ?_) -- t47
            · have hq' : q < n := by simpa using hc
              have hnq : n - q = (n - (q + 1)) + 1 := by omega
              rw [hnq, rRounds] at hrr
              refine .skip (.seq (.block ?_))
              refine .step X0.sound (by kernel_rfl) (by simp; exact rfl) (.block ?_) -- region 15
              refine .loopV (fun k st => ∃ (j G : Nat) (u1 : PW), j ≤ t.rs.length ∧ k = t.rs.length - j ∧ rLen n u1 ∧ (t.rs.drop j).foldl (rStep t i) u1 = rRound t i u ∧ st = ⟨[(1, .ptr 0 0 0 0), (4, .int .i64 n), (5, .sl 1 1 0 n), (6, .sl 2 2 0 n), (8, .int .i64 i), (9, .int .i64 q), (10, .int .i64 j)], rHeap t ex u1, 3, G⟩) ?_ (View.norm _ [1, 4, 5, 6, 8, 9, 10] [0, 1, 2] 3 G2 (by simp))
                ⟨0, G2, u, by omega, rfl, hlu2, rfl, by simp⟩
              rintro k st ⟨j, G3, u1, hj1, rfl, hlu3, hfold, rfl⟩
              refine .seq (.step X0.sound (by kernel_rfl) (by simp; exact rfl) ?_) -- region 16
              refine .cond_split (by simp; exact rfl) (fun hc => ?_) (fun hc => ?_) -- t54
              · have hjl : j < t.rs.length := by simpa using hc
                have hdrop : t.rs.drop j = t.rs[j] :: t.rs.drop (j + 1) := List.drop_eq_getElem_cons hjl
                have hx0 : 0 ≤ t.rs[j].1 := hh _ (List.getElem_mem _)
                obtain ⟨x, hx⟩ : ∃ x, x = t.rs[j] := ⟨_, rfl⟩
                rw [← hx] at hx0 hdrop
                rw [hdrop, List.foldl_cons] at hfold
                obtain ⟨s, m, hs, hm, hslt, hsn, hmn, _⟩ := node_of hok hx0
                rw [hn] at hsn hmn
                have hwm : IntKind.i64.wrap (m : Int) = m := wrap64 (by omega) (by omega)
                have hwj1 : IntKind.i64.wrap ((j : Int) + 1) = (j : Int) + 1 := wrap64 (by omega) (by omega)
                have hsz : t.sun ≠ 0 := by omega
                have hmz : t.moon ≠ 0 := by omega
                have hsm' : s ≠ m := by omega
                have hls := hlu3.1
                have hlw := hlu3.2
                refine .skip (.seq (.block ?_))
                refine .step X0.sound (by kernel_rfl) (by simp [hjl, ← hx]; exact rfl) ?_ -- region 18
                refine .draw mixed X0.sound (by kernel_rfl) (by kernel_rfl) rfl (by simp [hsz, hmz, hs, hm, hwm]; exact ⟨rfl, rfl⟩) (looseB_spec (by kernel_rfl)) ?_ -- region 19
                obtain ⟨v1, hv1⟩ : ∃ v1 : PW, v1 = if u1.1.getD s 0 = i ∧ u1.1.getD m 0 < 0 then (u1.1.set m i, u1.2.set m (IntKind.i64.wrap (x.2 - u1.2.getD s 0))) else u1 := ⟨_, rfl⟩
                obtain ⟨v2, hv2⟩ : ∃ v2 : PW, v2 = if v1.1.getD m 0 = i ∧ v1.1.getD s 0 < 0 then (v1.1.set s i, v1.2.set s (IntKind.i64.wrap (x.2 - v1.2.getD m 0))) else v1 := ⟨_, rfl⟩
                have hst : rStep t i u1 x = v2 := by
                  have e1 : (x.1.tmod t.sun).toNat = s := by omega
                  have e2 : (t.sun + x.1.tmod t.moon).toNat = m := by omega
                  unfold rStep
                  simp only [e1, e2]
                  rw [hv2, hv1]
                rw [hst] at hfold
                have hl1 : rLen n v1 := by rw [hv1]; split <;> simp [rLen, hls, hlw]
                have hl2 : rLen n v2 := by rw [hv2]; split <;> simp [rLen, hl1.1, hl1.2]
                refine .cut ⟨[(1, .ptr 0 0 0 0), (4, .int .i64 n), (5, .sl 1 1 0 n), (6, .sl 2 2 0 n), (8, .int .i64 i), (9, .int .i64 q), (10, .int .i64 j), (11, .ptr 3 G3 0 0), (12, .int .i64 s), (13, .int .i64 m)], rHeap t ex v1 ++ [(3, some (.row 2 [[.int .i64 x.1, .int .i64 x.2]] G3 true))], 4, G3 + 1⟩ ?_ ?_
                · obtain ⟨ps, hps, hpsd⟩ := gD hls hsn
                  obtain ⟨pm, hpm, hpmd⟩ := gD hls hmn
                  obtain ⟨ws, hws, hwsd⟩ := gD hlw hsn
                  obtain ⟨wm, hwm2, _⟩ := gD hlw hmn
                  rw [hpsd, hpmd, hwsd] at hv1
                  by_cases c1 : ps = i
                  · by_cases c2 : pm < 0
                    · rw [if_pos ⟨c1, c2⟩] at hv1
                      refine .step X0.sound (by kernel_rfl) (by simp [hsn, hmn, hps, hpm, c1, c2]; exact rfl) ?_ -- region 20
                      refine .cond (t := true) (by simp) ?_
                      refine .drawn mixed X0.sound (by kernel_rfl) (by kernel_rfl) (runD_tr (by simp [hsn, hmn, hws, hpm, hwm2]; exact ⟨rfl, rfl⟩)) (looseB_spec (by kernel_rfl)) ?_ -- region 21
                      exact View.to [1, 4, 5, 6, 8, 9, 10, 11, 12, 13] [0, 1, 2, 3] 4 (G3 + 1) (by simp) (by rw [hv1]; simp [List.map_set])
                    · rw [if_neg fun h => c2 h.2] at hv1
                      refine .step X0.sound (by kernel_rfl) (by simp [hsn, hmn, hps, hpm, c1, c2]; exact rfl) ?_ -- region 20
                      refine .cond (t := false) (by simp) (.skip ?_)
                      exact View.to [1, 4, 5, 6, 8, 9, 10, 11, 12, 13] [0, 1, 2, 3] 4 (G3 + 1) (by simp) (by rw [hv1]; simp)
                  · have c1b : (ps == (i : Int)) = false := by simpa using c1
                    rw [if_neg fun h => c1 h.1] at hv1
                    refine .step X0.sound (by kernel_rfl) (by simp [hsn, hmn, hps, hpm, c1b]; exact rfl) ?_ -- region 20
                    refine .cond (t := false) (by simp) (.skip ?_)
                    exact View.to [1, 4, 5, 6, 8, 9, 10, 11, 12, 13] [0, 1, 2, 3] 4 (G3 + 1) (by simp) (by rw [hv1]; simp)
                · obtain ⟨ps, hps, hpsd⟩ := gD hl1.1 hsn
                  obtain ⟨pm, hpm, hpmd⟩ := gD hl1.1 hmn
                  obtain ⟨wm, hwm2, hwmd⟩ := gD hl1.2 hmn
                  obtain ⟨ws, hws, _⟩ := gD hl1.2 hsn
                  have hls := hl1.1
                  have hlw := hl1.2
                  rw [hpsd, hpmd, hwmd] at hv2
                  by_cases c1 : pm = i
                  · by_cases c2 : ps < 0
                    · rw [if_pos ⟨c1, c2⟩] at hv2
                      refine .step X0.sound (by kernel_rfl) (by simp [hsn, hmn, hps, hpm, c1, c2]; exact rfl) ?_ -- region 22
                      refine .cond (t := true) (by simp) ?_
                      refine .drawn mixed X0.sound (by kernel_rfl) (by kernel_rfl) (runD_tr (by simp [hsn, hmn, hwm2, hps, hws]; exact ⟨rfl, rfl⟩)) (looseB_spec (by kernel_rfl)) ?_ -- region 23
                      refine .region X0.sound (by kernel_rfl) (by simp [hwj1]; exact rfl) ?_ -- region 17
                      refine ⟨_, _, View.norm _ [1, 4, 5, 6, 8, 9, 10] [0, 1, 2] 3 (G3 + 1) (by simp), ?_, j + 1, G3 + 1, v2, by omega, rfl, hl2, hfold, ?_⟩
                      · omega
                      · rw [hv2]; simp [List.map_set]
                    · rw [if_neg fun h => c2 h.2] at hv2
                      refine .step X0.sound (by kernel_rfl) (by simp [hsn, hmn, hps, hpm, c1, c2]; exact rfl) ?_ -- region 22
                      refine .cond (t := false) (by simp) (.skip ?_)
                      refine .region X0.sound (by kernel_rfl) (by simp [hwj1]; exact rfl) ?_ -- region 17
                      refine ⟨_, _, View.norm _ [1, 4, 5, 6, 8, 9, 10] [0, 1, 2] 3 (G3 + 1) (by simp), ?_, j + 1, G3 + 1, v2, by omega, rfl, hl2, hfold, ?_⟩
                      · omega
                      · rw [hv2]; simp
                  · have c1b : (pm == (i : Int)) = false := by simpa using c1
                    rw [if_neg fun h => c1 h.1] at hv2
                    refine .step X0.sound (by kernel_rfl) (by simp [hsn, hmn, hps, hpm, c1b]; exact rfl) ?_ -- region 22
                    refine .cond (t := false) (by simp) (.skip ?_)
                    refine .region X0.sound (by kernel_rfl) (by simp [hwj1]; exact rfl) ?_ -- region 17
                    refine ⟨_, _, View.norm _ [1, 4, 5, 6, 8, 9, 10] [0, 1, 2] 3 (G3 + 1) (by simp), ?_, j + 1, G3 + 1, v2, by omega, rfl, hl2, hfold, ?_⟩
                    · omega
                    · rw [hv2]; simp
              · have : j = t.rs.length := by simp at hc; omega
                subst this
                rw [List.drop_length, List.foldl_nil] at hfold
                rw [← hfold] at hrr
                refine .exit (.region X0.sound (by kernel_rfl) (by simp [hwj q (by omega)]; exact rfl) ?_) -- region 14
                refine ⟨_, _, View.norm _ [1, 4, 5, 6, 8, 9] [0, 1, 2] 3 G3 (by simp), ?_, q + 1, G3, u1, by omega, rfl, hlu3, hrr, ?_⟩
                · omega
                · simp
            · have : n = q := by simp at hc; omega
              subst this
              rw [Nat.sub_self, rRounds] at hrr
              rw [← hrr] at hres
              refine .exit (.region X0.sound (by kernel_rfl) (by simp [hwj i (by omega)]; exact rfl) ?_) -- region 9
              refine ⟨_, _, View.norm _ [1, 4, 5, 6, 8] [0, 1, 2] 3 G2 (by simp), ?_, i + 1, G2, u, by omega, rfl, hlu2, hres, ?_⟩
              · omega
              · simp
        · have : n = i := by simp at hc; omega
          subst this
          rw [Nat.sub_self] at hres
          have hres' : v = rSolved t := hres
          rw [← hres', hn]
          refine .exit (.step X0.sound (by kernel_rfl) (by simp; exact rfl) ?_) -- region 24
          refine .ret ⟨.inr rfl, [.sl 1 1 0 n, .sl 2 2 0 n], [.sl 1 1 0 n, .sl 2 2 0 n], [], [.sl nx G 0 n, .sl (nx + 1) (G + 1) 0 n], [(nx, some (.row 1 (ints v.1) G true)), (nx + 1, some (.row 1 (ints v.2) (G + 1) true))], [1, 2], ?_, ?_, .row (b := 1) (by simp [hupd]) (free_row_ints v.1) (.row (b := 2) (by simp [hupd]) (free_row_ints v.2) (.nil _ _)), by simp, rfl⟩
          · rw [show Try.f45.results.toList = [.tmp 2, .tmp 3] from rfl]; simp
          · simp
    · exact (rd_fail h).elim
  · exact (rd_fail h).elim

end Go.Proofs.Ytlidakhdcnkabaa

namespace Go.Proofs.Ytlidakhdcnkabaa
open Go.AI
set_option linter.unusedSimpArgs false

def X14 : Ext := .of [(49, isS), (45, refSolvedS)] []
theorem X14.sound : X14.Sound Try.prog := Ext.of_sound ⟨is_sound, refSolved_sound, trivial⟩
@[simp] theorem X14.raw_ (f : FuncId) : X14.raw f = false := rfl
@[simp] theorem X14.s49 : X14.spec 49 = isS := rfl
@[simp] theorem X14.s45 : X14.spec 45 = refSolvedS := rfl
@[simp] theorem isS_int (a b c : Int) (nx G : Nat) : isS [.int .i64 a, .int .i64 b, .int .i64 c] nx G = valR nx G (.bool (decide (b ≤ a) && decide (a ≤ c))) := rfl

theorem refCheck_sound : FSound Try.prog 22 checkS := by
  refine fsound_pure Try.func22 (by kernel_rfl) rfl _ fun xs nx G d hp h => ?_
  unfold checkS at h
  split at h
  · rename_i r
    replace h := rd_opt h; obtain ⟨t, ht, h⟩ := h
    obtain ⟨ex, rfl⟩ := asTide_some ht
    have hd := rd_val h
    subst hd
    refine ⟨by simp [Try.f22], all1 (free_tide t ex), ?_⟩
    refine Exec.len_tide (ex := ex) (t := t) 0 (by simp) fun hb0 => ?_
    have hb : t.rs.length < 9223372036854775808 := by simp [maxLen] at hb0; omega
    refine .step X14.sound (by kernel_rfl) (by simp; exact rfl) ?_ -- region 0
    have one : ∀ {s : St} {v : Int}, tget s.tmps 2 = .int .i64 v → Ends0 Try.prog Try.f22 s nx G ⟨.int .i64 v, [], nx, G⟩ := fun {s v} hv => ends_free (l := [.tmp 2]) rfl (rs := [.int .i64 v]) (by simp [hv]) (fun k => by simp) (by simp)
    refine .seq ?_
    by_cases h1 : 1 ≤ t.sun ∧ t.sun ≤ 30
    · by_cases h2 : 1 ≤ t.moon ∧ t.moon ≤ 30
      · refine .step X14.sound (by kernel_rfl) (by simp [h1.1, h1.2, h2.1, h2.2]; exact rfl) ?_ -- region 1
        refine .cond (t := false) (by simp) (.skip ?_)
        refine .seq (.step X14.sound (by kernel_rfl) (by simp; exact rfl) ?_) -- region 3
        refine .cond_split (by simp; exact rfl) (fun hc => ?_) (fun hc => ?_)
        · have hl : 60 < t.rs.length := by simp at hc; omega
          refine .step X14.sound (by kernel_rfl) (by simp; exact rfl) (.ret ⟨.inr rfl, ?_⟩)
          have : checkT t = 3 := by simp [checkT, h1, h2, hl]
          rw [this]
          exact one (by simp)
        · have hl : ¬ 60 < t.rs.length := by simp at hc; omega
          have hck : checkT t = chk (-1) t.rs := by simp [checkT, h1, h2, hl]
          rw [hck]
          refine .skip (.seq (.step X14.sound (by kernel_rfl) (by simp; exact rfl) (.block ?_)))
          refine .loopV (fun k st => ∃ (j : Nat) (p : Int) (G : Nat), j ≤ t.rs.length ∧ k = t.rs.length - j ∧ chk p (t.rs.drop j) = chk (-1) t.rs ∧ ((j = 0 ∧ p = -1) ∨ ∃ q y, j = q + 1 ∧ t.rs[q]? = some y ∧ p = y.1) ∧ st = ⟨[(1, .ptr 0 0 0 0), (3, .int .i64 j)], [(0, some (.row 3 [tideC t ex] 0 true))], 1, G⟩) ?_ (View.norm _ [1, 3] [0] 1 1 (by simp)) ⟨0, -1, 1, by omega, rfl, by simp, .inl ⟨rfl, rfl⟩, by simp⟩
          rintro k st ⟨j, p, G1, hj, rfl, hck', hp, rfl⟩
          refine .seq (.step X14.sound (by kernel_rfl) (by simp; exact rfl) ?_) -- region 6
          refine .cond_split (by simp; exact rfl) (fun hc => ?_) (fun hc => ?_) -- t23
          · have hj' : j < t.rs.length := by simpa using hc
            have hdrop : t.rs.drop j = t.rs[j] :: t.rs.drop (j + 1) := List.drop_eq_getElem_cons hj'
            obtain ⟨x, hx⟩ : ∃ x, x = t.rs[j] := ⟨_, rfl⟩
            have hw1 : IntKind.i64.wrap ((j : Int) + 1) = (j : Int) + 1 := wrap64 (by omega) (by omega)
            rw [hdrop, chk, ← hx] at hck'
            rw [← hck']
            refine .skip (.seq (.block ?_))
            refine .step X14.sound (by kernel_rfl) (by simp [hj', ← hx]; exact rfl) (.seq ?_) -- region 8
            by_cases g1 : 0 ≤ x.1 ∧ x.1 ≤ 100000
            · by_cases g2 : -1000000 ≤ x.2 ∧ x.2 ≤ 1000000
              · rw [if_pos ⟨g1, g2⟩] at hck' ⊢
                refine .step X14.sound (by kernel_rfl) (by simp [g1.1, g1.2, g2.1, g2.2]; exact rfl) ?_ -- region 9
                refine .cond (t := false) (by simp) (.skip ?_)
                rcases hp with ⟨rfl, rfl⟩ | ⟨q, y, rfl, hy, rfl⟩
                · refine .draw mixed X14.sound (by kernel_rfl) (by kernel_rfl) rfl (by simp; exact ⟨rfl, rfl⟩) (looseB_spec (by kernel_rfl)) ?_ -- region 11
                  refine .cond (t := false) (by simp) (.skip ?_)
                  rw [if_neg (by omega)] at hck' ⊢
                  refine .region X14.sound (by kernel_rfl) (by simp [hw1]; exact rfl) ?_ -- region 7
                  refine ⟨_, _, View.norm _ [1, 3] [0] 1 (G1 + 1) (by simp), ?_, 0 + 1, x.1, G1 + 1, by omega, rfl, rfl, .inr ⟨0, x, rfl, by rw [List.getElem?_eq_getElem hj', hx], rfl⟩, ?_⟩
                  · omega
                  · simp; exact wrap64 (by omega) (by omega)
                · have hq1 : (0 : Int) < (q : Int) + 1 := by omega
                  have hwq : IntKind.i64.wrap (q : Int) = q := wrap64 (by omega) (by omega)
                  have hq2 : q < t.rs.length := by omega
                  have hy' : t.rs[q] = y := by rw [List.getElem?_eq_getElem hq2] at hy; exact Option.some.inj hy
                  refine .draw mixed X14.sound (by kernel_rfl) (by kernel_rfl) rfl (by simp [hq1, hwq, hq2, hy']; exact ⟨rfl, rfl⟩) (looseB_spec (by kernel_rfl)) ?_ -- region 11
                  refine .cond_split (by simp; exact rfl) (fun hc => ?_) (fun hc => ?_) -- t54
                  · rw [if_pos (by simpa using hc)]
                    exact .step X14.sound (by kernel_rfl) (by simp; exact rfl) (.ret ⟨.inr rfl, one (by simp)⟩) -- region 12
                  · rw [if_neg (by simpa using hc)] at hck' ⊢
                    refine .skip (.region X14.sound (by kernel_rfl) (by simp; exact rfl) ?_) -- region 7
                    refine ⟨_, _, View.norm _ [1, 3] [0] 1 (G1 + 1) (by simp), ?_, q + 1 + 1, x.1, G1 + 1, by omega, rfl, rfl, .inr ⟨q + 1, x, rfl, by rw [List.getElem?_eq_getElem hj', hx], rfl⟩, ?_⟩
                    · omega
                    · simp; exact wrap64 (by omega) (by omega)
              · rw [if_neg fun h => g2 h.2]
                refine .step X14.sound (by kernel_rfl) (by simp [g1.1, g1.2, neg_and g2]; exact rfl) ?_ -- region 9
                exact .cond (t := true) (by simp) (.step X14.sound (by kernel_rfl) (by simp; exact rfl) (.ret ⟨.inr rfl, one (by simp)⟩))
            · rw [if_neg fun h => g1 h.1]
              refine .step X14.sound (by kernel_rfl) (by simp [neg_and g1]; exact rfl) ?_ -- region 9
              exact .cond (t := true) (by simp) (.step X14.sound (by kernel_rfl) (by simp; exact rfl) (.ret ⟨.inr rfl, one (by simp)⟩))
          · have : j = t.rs.length := by simp at hc; omega
            subst this
            simp only [List.drop_length, chk] at hck'
            rw [← hck']
            exact .exit (.step X14.sound (by kernel_rfl) (by simp; exact rfl) (.ret ⟨.inr rfl, one (by simp)⟩))
      · refine .step X14.sound (by kernel_rfl) (by simp [h1.1, h1.2, neg_and h2]; exact rfl) ?_
        refine .cond (t := true) (by simp) (.step X14.sound (by kernel_rfl) (by simp; exact rfl) (.ret ⟨.inr rfl, ?_⟩))
        have : checkT t = 1 := by simp only [checkT]; rw [if_neg (fun h => h2 h.2)]
        rw [this]
        exact one (by simp)
    · refine .step X14.sound (by kernel_rfl) (by simp [neg_and h1]; exact rfl) ?_
      refine .cond (t := true) (by simp) (.step X14.sound (by kernel_rfl) (by simp; exact rfl) (.ret ⟨.inr rfl, ?_⟩))
      have : checkT t = 1 := by simp only [checkT]; rw [if_neg (fun h => h1 h.1)]
      rw [this]
      exact one (by simp)
  · exact (rd_fail h).elim

theorem chk_zero : ∀ (l : List (Int × Int)) (p : Int), chk p l = 0 → ∀ x ∈ l, (0 ≤ x.1 ∧ x.1 ≤ 100000) ∧ -1000000 ≤ x.2 ∧ x.2 ≤ 1000000
  | [], _, _, _, hx => by cases hx
  | y :: l, p, h, x, hx => by
    unfold chk at h
    split at h
    · rename_i hc
      split at h
      · cases h
      · rcases List.mem_cons.1 hx with rfl | hx
        · exact hc
        · exact chk_zero l _ h x hx
    · cases h

theorem check_ok {t : Tide} (h : checkT t = 0) : rOk t := by
  obtain ⟨h1, h2, _, h3⟩ := checkT_zero h
  exact ⟨⟨h1, h2⟩, fun x hx => (chk_zero _ _ h3 x hx).1.1⟩

/-- A reading's nodes, numbered. -/
def rS (t : Tide) (h : Int) : Nat := (h.tmod t.sun).toNat
def rM (t : Tide) (h : Int) : Nat := (t.sun + h.tmod t.moon).toNat

def rFit (t : Tide) (x : Int × Int) : Bool := IntKind.i64.wrap ((rSolved t).2.getD (rS t x.1) 0 + (rSolved t).2.getD (rM t x.1) 0) == x.2
def rFits (t : Tide) : Bool := t.rs.all (rFit t)

theorem rSolved_len (t : Tide) : rLen (rSize t) (rSolved t) := by
  have key : ∀ (l : List Nat) (v : PW), rLen (rSize t) v → rLen (rSize t) (rNodes t (rSize t) l v) := by
    intro l
    induction l with
    | nil => exact fun _ h => h
    | cons i l ih =>
      intro v h
      refine ih _ ?_
      unfold rNode
      split
      · exact h
      · exact rRounds_len _ ⟨by simp [h.1], h.2⟩
  exact key _ _ ⟨by simp, by simp⟩

def rfitsS : FSpec := fun xs nx G => match xs with
  | [r] => ofOpt (asTide r) fun t => if rOk t then valR nx G (.bool (rFits t)) else .fail
  | _ => .fail

theorem refSolved_at (t : Tide) (ex : Bool) (h : rOk t) (nx G : Nat) : refSolvedS [tideA t ex] nx G = .ret ⟨.tup [.sl nx G 0 (rSize t), .sl (nx + 1) (G + 1) 0 (rSize t)], [(nx, some (.row 1 (ints (rSolved t).1) G true)), (nx + 1, some (.row 1 (ints (rSolved t).2) (G + 1) true))], nx + 2, G + 2⟩ := by
  simp [refSolvedS, h]

theorem rfits_sound : FSound Try.prog 47 rfitsS := by
  refine fsound_pure Try.func47 (by kernel_rfl) rfl _ fun xs nx G d hp h => ?_
  unfold rfitsS at h
  split at h
  · rename_i r
    replace h := rd_opt h; obtain ⟨t, ht, h⟩ := h
    obtain ⟨ex, rfl⟩ := asTide_some ht
    split at h
    · rename_i hok
      have hd := rd_val h
      subst hd
      refine ⟨by simp [Try.f47], all1 (free_tide t ex), ?_⟩
      obtain ⟨⟨⟨a1, a2⟩, a3, a4⟩, hh⟩ := id hok
      obtain ⟨hl1, hl2⟩ := rSolved_len t
      refine Exec.len_tide (ex := ex) (t := t) 0 (by simp) fun hb0 => ?_
      have hb : t.rs.length < 9223372036854775808 := by simp [maxLen] at hb0; omega
      refine .step X14.sound (by kernel_rfl) (by simp; exact rfl) ?_ -- region 0
      refine .step X14.sound (by kernel_rfl) (by simp [refSolved_at, hok]; exact rfl) ?_ -- region 1
      refine .seq (.step X14.sound (by kernel_rfl) (by simp; exact rfl) (.block ?_)) -- region 2
      refine .loopV (fun k st => ∃ (j G : Nat), j ≤ t.rs.length ∧ k = t.rs.length - j ∧ (t.rs.drop j).all (rFit t) = rFits t ∧ st = ⟨[(1, .ptr 0 0 0 0), (4, .sl 2 2 0 (rSize t)), (5, .int .i64 j)], [(0, some (.row 3 [tideC t ex] 0 true)), (2, some (.row 1 (ints (rSolved t).2) 2 true))], 3, G⟩) ?_ (View.norm _ [1, 4, 5] [0, 2] 3 3 (by simp)) ⟨0, 3, by omega, rfl, rfl, by simp⟩
      rintro k st ⟨j, G1, hj, rfl, hall, rfl⟩
      refine .seq (.step X14.sound (by kernel_rfl) (by simp; exact rfl) ?_) -- region 3
      refine .cond_split (by simp; exact rfl) (fun hc => ?_) (fun hc => ?_) -- t16
      · have hj' : j < t.rs.length := by simpa using hc
        have hdrop : t.rs.drop j = t.rs[j] :: t.rs.drop (j + 1) := List.drop_eq_getElem_cons hj'
        have hx0 : 0 ≤ t.rs[j].1 := hh _ (List.getElem_mem _)
        obtain ⟨x, hx⟩ : ∃ x, x = t.rs[j] := ⟨_, rfl⟩
        rw [← hx] at hx0 hdrop
        rw [hdrop, List.all_cons] at hall
        obtain ⟨s, m, hs, hm, hslt, hsn, hmn, _⟩ := node_of hok hx0
        obtain ⟨ws, hws, hwsd⟩ := gD hl2 hsn
        obtain ⟨wm, hwm, hwmd⟩ := gD hl2 hmn
        have hn60 : rSize t ≤ 60 := by unfold rSize; omega
        have hwm1 : IntKind.i64.wrap (m : Int) = m := wrap64 (by omega) (by omega)
        have hwj1 : IntKind.i64.wrap ((j : Int) + 1) = (j : Int) + 1 := wrap64 (by omega) (by omega)
        have hsz : t.sun ≠ 0 := by omega
        have hmz : t.moon ≠ 0 := by omega
        have hfit : rFit t x = (IntKind.i64.wrap (ws + wm) == x.2) := by
          have e1 : rS t x.1 = s := by unfold rS; omega
          have e2 : rM t x.1 = m := by unfold rM; omega
          rw [rFit, e1, e2, hwsd, hwmd]
        refine .skip (.seq (.block ?_))
        refine .step X14.sound (by kernel_rfl) (by simp [hj', ← hx]; exact rfl) ?_ -- region 5
        refine .draw mixed X14.sound (by kernel_rfl) (by kernel_rfl) rfl (by simp [hsz, hmz, hs, hm, hwm1, hsn, hmn, hws, hwm]; exact ⟨rfl, rfl⟩) (looseB_spec (by kernel_rfl)) ?_ -- region 6
        refine .cond_split (by simp; exact rfl) (fun hc => ?_) (fun hc => ?_) -- t46
        · have : rFits t = false := by
            rw [← hall, hfit]
            simp at hc
            simp [hc]
          rw [this]
          refine .step X14.sound (by kernel_rfl) (by simp; exact rfl) ?_ -- region 7
          exact .ret ⟨.inr rfl, ends_free (l := [.tmp 2]) rfl (rs := [_]) (by simp) (fun k => by simp) (by simp)⟩
        · have hf : rFit t x = true := by rw [hfit]; simpa using hc
          rw [hf, Bool.true_and] at hall
          refine .skip (.region X14.sound (by kernel_rfl) (by simp [hwj1]; exact rfl) ?_) -- region 4
          refine ⟨_, _, View.norm _ [1, 4, 5] [0, 2] 3 (G1 + 1) (by simp), ?_, j + 1, G1 + 1, by omega, rfl, hall, ?_⟩
          · omega
          · simp
      · have : j = t.rs.length := by simp at hc; omega
        subst this
        rw [List.drop_length, List.all_nil] at hall
        rw [← hall]
        refine .exit (.step X14.sound (by kernel_rfl) (by simp; exact rfl) ?_) -- region 8
        exact .ret ⟨.inr rfl, ends_free (l := [.tmp 2]) rfl (rs := [_]) (by simp) (fun k => by simp) (by simp)⟩
    · exact (rd_fail h).elim
  · exact (rd_fail h).elim

theorem rfits_at (t : Tide) (ex : Bool) (h : rOk t) (nx G : Nat) : rfitsS [tideA t ex] nx G = valR nx G (.bool (rFits t)) := by simp [rfitsS, h]

def rFitsT (t : Tide) : Int := if checkT t ≠ 0 then checkT t else if rFits t = true then 0 else 13

def RFitsS : FSpec := fun xs nx G => match xs with
  | [r] => ofOpt (asTide r) fun t => valR nx G (.int .i64 (rFitsT t))
  | _ => .fail

def X15 : Ext := .of [(22, checkS), (47, rfitsS)] []
theorem X15.sound : X15.Sound Try.prog := Ext.of_sound ⟨refCheck_sound, rfits_sound, trivial⟩
@[simp] theorem X15.raw_ (f : FuncId) : X15.raw f = false := rfl
@[simp] theorem X15.s22 : X15.spec 22 = checkS := rfl
@[simp] theorem X15.s47 : X15.spec 47 = rfitsS := rfl

theorem RFits_sound : FSound Try.prog 20 RFitsS := by
  refine fsound_pure Try.func20 (by kernel_rfl) rfl _ fun xs nx G d hp h => ?_
  unfold RFitsS at h
  split at h
  · rename_i r
    replace h := rd_opt h; obtain ⟨t, ht, h⟩ := h
    obtain ⟨ex, rfl⟩ := asTide_some ht
    have hd := rd_val h
    subst hd
    refine ⟨by simp [Try.f20], all1 (free_tide t ex), ?_⟩
    refine .step X15.sound (by kernel_rfl) (by simp; exact rfl) ?_ -- region 0
    refine .step X15.sound (by kernel_rfl) (by simp; exact rfl) (.seq ?_) -- region 1
    by_cases hc : checkT t = 0
    · have hok := check_ok hc
      refine .step X15.sound (by kernel_rfl) (by simp [hc, rfits_at, hok]; exact rfl) ?_ -- region 2
      refine .cond_split (t := !rFits t) (by simp) (fun hf => ?_) (fun hf => ?_) -- t12
      · have hf' : rFits t = false := by simpa using hf
        have : rFitsT t = 13 := by simp [rFitsT, hc, hf']
        rw [this]
        refine .region X15.sound (by kernel_rfl) (by simp; exact rfl) ?_ -- region 3
        refine .step X15.sound (by kernel_rfl) (by simp; exact rfl) ?_ -- region 4
        exact .ret ⟨.inr rfl, ends_free (l := [.tmp 2]) rfl (rs := [_]) (by simp) (fun k => by simp) (by simp)⟩
      · have hf' : rFits t = true := by simpa using hf
        have : rFitsT t = 0 := by simp [rFitsT, hc, hf']
        rw [this]
        refine .skip (.step X15.sound (by kernel_rfl) (by simp; exact rfl) ?_) -- region 4
        exact .ret ⟨.inr rfl, ends_free (l := [.tmp 2]) rfl (rs := [_]) (by simp) (fun k => by simp) (by simp)⟩
    · have hcb : (checkT t == 0) = false := by simpa using hc
      have : rFitsT t = checkT t := by simp [rFitsT, hc]
      rw [this]
      refine .step X15.sound (by kernel_rfl) (by simp [hcb]; exact rfl) ?_ -- region 2
      refine .cond (t := false) (by simp) (.skip ?_)
      refine .step X15.sound (by kernel_rfl) (by simp; exact rfl) ?_ -- region 4
      exact .ret ⟨.inr rfl, ends_free (l := [.tmp 2]) rfl (rs := [_]) (by simp) (fun k => by simp) (by simp)⟩
  · exact (rd_fail h).elim

end Go.Proofs.Ytlidakhdcnkabaa

namespace Go.Proofs.Ytlidakhdcnkabaa
open Go.AI
set_option linter.unusedSimpArgs false

def X16 : Ext := .of [(20, RFitsS), (22, checkS), (45, refSolvedS), (47, rfitsS), (49, isS)] []
theorem X16.sound : X16.Sound Try.prog := Ext.of_sound ⟨RFits_sound, refCheck_sound, refSolved_sound, rfits_sound, is_sound, trivial⟩
@[simp] theorem X16.raw_ (f : FuncId) : X16.raw f = false := rfl
@[simp] theorem X16.s20 : X16.spec 20 = RFitsS := rfl
@[simp] theorem X16.s22 : X16.spec 22 = checkS := rfl
@[simp] theorem X16.s45 : X16.spec 45 = refSolvedS := rfl
@[simp] theorem X16.s47 : X16.spec 47 = rfitsS := rfl
@[simp] theorem X16.s49 : X16.spec 49 = isS := rfl
@[simp] theorem RFits_at (t : Tide) (ex : Bool) (nx G : Nat) : RFitsS [tideA t ex] nx G = valR nx G (.int .i64 (rFitsT t)) := by simp [RFitsS]

theorem rFitsT_zero {t : Tide} (h : rFitsT t = 0) : checkT t = 0 ∧ rFits t = true := by
  unfold rFitsT at h
  split at h
  · rename_i h1; exact absurd h h1
  · rename_i h1
    split at h
    · rename_i h2; exact ⟨by simpa using h1, h2⟩
    · cases h

theorem okEs_ints (l : List Int) : okEs 1 (ints l) = true := by simp [okEs, AVal.sc]

def rWavesT (t : Tide) : List Int × List Int × Int := if rFitsT t ≠ 0 then ([], [], rFitsT t) else ((rSolved t).2.take t.sun.toNat, (rSolved t).2.drop t.sun.toNat, 0)

def RWavesS : FSpec := fun xs nx G => match xs with
  | [r] => ofOpt (asTide r) fun t => .ret ⟨.tup [.sl nx G 0 (rWavesT t).1.length, .sl (nx + 1) (G + 1) 0 (rWavesT t).2.1.length, .int .i64 (rWavesT t).2.2], [(nx, some (.row 1 (ints (rWavesT t).1) G true)), (nx + 1, some (.row 1 (ints (rWavesT t).2.1) (G + 1) true))], nx + 2, G + 2⟩
  | _ => .fail

theorem RWaves_sound : FSound Try.prog 15 RWavesS := by
  refine fsound_pure Try.func15 (by kernel_rfl) rfl _ fun xs nx G d hp h => ?_
  unfold RWavesS at h
  split at h
  · rename_i r
    replace h := rd_opt h; obtain ⟨t, ht, h⟩ := h
    obtain ⟨ex, rfl⟩ := asTide_some ht
    simp only [Rd.run, Option.some.injEq] at h
    subst h
    refine ⟨by simp [Try.f15], all1 (free_tide t ex), ?_⟩
    have fin : ∀ (s : St) (a b : List Int) (e : Int) (b1 b2 ga gb : Nat), b1 ≠ b2 → tget s.tmps 2 = .sl b1 ga 0 a.length → tget s.tmps 3 = .sl b2 gb 0 b.length → tget s.tmps 4 = .int .i64 e → hget s.heap b1 = some (.row 1 (ints a) ga true) → hget s.heap b2 = some (.row 1 (ints b) gb true) →
        Ends0 Try.prog Try.f15 s nx G ⟨.tup [.sl nx G 0 a.length, .sl (nx + 1) (G + 1) 0 b.length, .int .i64 e], [(nx, some (.row 1 (ints a) G true)), (nx + 1, some (.row 1 (ints b) (G + 1) true))], nx + 2, G + 2⟩ := by
      intro s a b e b1 b2 ga gb hne h2 h3 h4 k1 k2
      refine ⟨[.sl b1 ga 0 a.length, .sl b2 gb 0 b.length, .int .i64 e], [.sl b1 ga 0 a.length, .sl b2 gb 0 b.length, .int .i64 e], [], [.sl nx G 0 a.length, .sl (nx + 1) (G + 1) 0 b.length, .int .i64 e], [(nx, some (.row 1 (ints a) G true)), (nx + 1, some (.row 1 (ints b) (G + 1) true))], [b1, b2], ?_, ?_, .row (b := b1) (by simp [hupd, k1]) (free_row_ints a) (.row (b := b2) (by simp [hupd, k2]) (free_row_ints b) (.keep (.int _ _) (.nil _ _))), by simp [hne], rfl⟩
      · rw [show Try.f15.results.toList = [.tmp 2, .tmp 3, .tmp 4] from rfl]; simp [h2, h3, h4]
      · simp [k1, k2]
    refine .step X16.sound (by kernel_rfl) (by simp; exact rfl) ?_ -- region 0
    refine .step X16.sound (by kernel_rfl) (by simp; exact rfl) ?_ -- region 1
    refine .seq (.step X16.sound (by kernel_rfl) (by simp; exact rfl) ?_) -- region 2
    refine .cond_split (by simp; exact rfl) (fun hc => ?_) (fun hc => ?_) -- t11
    · have hc' : rFitsT t ≠ 0 := by simpa using hc
      have : rWavesT t = ([], [], rFitsT t) := by simp [rWavesT, hc']
      rw [this]
      refine .step X16.sound (by kernel_rfl) (by simp; exact rfl) ?_ -- region 3
      refine .view (View.virt _ 2 1 1 true (by simp)) ?_
      refine .view (View.virt _ 3 2 1 true (by simp)) ?_
      exact .ret ⟨.inr rfl, fin _ [] [] _ 1 2 1 2 (by simp) (by simp) (by simp) (by simp) (by simp) (by simp)⟩
    · have hc' : rFitsT t = 0 := by simpa using hc
      obtain ⟨h0, _⟩ := rFitsT_zero hc'
      have hok := check_ok h0
      obtain ⟨⟨⟨a1, a2⟩, a3, a4⟩, _⟩ := id hok
      obtain ⟨hl1, hl2⟩ := rSolved_len t
      have : rWavesT t = ((rSolved t).2.take t.sun.toNat, (rSolved t).2.drop t.sun.toNat, 0) := by simp [rWavesT, hc']
      rw [this]
      obtain ⟨k, hk⟩ : ∃ k : Nat, t.sun = k := ⟨t.sun.toNat, by omega⟩
      have hkn : k ≤ rSize t := by unfold rSize; omega
      have hn60 : rSize t ≤ 60 := by unfold rSize; omega
      have r1 : k * 8 ≤ room := by simp [room]; omega
      have r2 : (rSize t - k) * 8 ≤ room := by simp [room]; omega
      have hki : (k : Int) ≤ (rSize t : Nat) := by omega
      have hsub : ((rSize t : Int) - (k : Int)).toNat = rSize t - k := by omega
      have l1 : List.take k (ints (rSolved t).2) = ints ((rSolved t).2.take k) := List.map_take.symm
      have l2 : List.take (rSize t - k) (List.drop k (ints (rSolved t).2)) = ints ((rSolved t).2.drop k) := by rw [List.take_of_length_le (by simp [hl2])]; exact List.map_drop.symm
      have ok1 : okEs 1 (List.take k (ints (rSolved t).2)) = true := by rw [l1]; exact okEs_ints _
      have ok2 : okEs 1 (List.take (rSize t - k) (List.drop k (ints (rSolved t).2))) = true := by rw [l2]; exact okEs_ints _
      refine .skip ?_
      refine .step X16.sound (by kernel_rfl) (by simp [refSolved_at, hok]; exact rfl) ?_ -- region 4
      refine .draw mixed X16.sound (by kernel_rfl) (by kernel_rfl) rfl (by simp [hk, hki, hkn, elems, appR, hl2, r1, r2, hsub, ok1, ok2]; exact ⟨rfl, rfl⟩) (looseB_spec (by kernel_rfl)) ?_ -- region 5
      have e1 : ((rSolved t).2.take t.sun.toNat).length = k := by rw [List.length_take, hl2, hk]; simp; omega
      have e2 : ((rSolved t).2.drop t.sun.toNat).length = rSize t - k := by rw [List.length_drop, hl2, hk]; simp
      exact .ret ⟨.inr rfl, fin _ _ _ _ 3 4 4 6 (by simp) (by rw [e1]; simp) (by rw [e2]; simp) (by simp) (by rw [hk]; simp) (by rw [hk]; simp [l2])⟩
  · exact (rd_fail h).elim

end Go.Proofs.Ytlidakhdcnkabaa

namespace Go.Proofs.Ytlidakhdcnkabaa
open Go.AI
set_option linter.unusedSimpArgs false

def rRoot (t : Tide) (i : Nat) : Bool := (rSolved t).1.getD i 0 == (i : Int)
def rPartsT (t : Tide) : Int × Int := if checkT t ≠ 0 then (0, checkT t) else (((List.range (rSize t)).countP (rRoot t) : Nat), 0)

def RPartsS : FSpec := fun xs nx G => match xs with
  | [r] => ofOpt (asTide r) fun t => valR nx G (.tup [.int .i64 (rPartsT t).1, .int .i64 (rPartsT t).2])
  | _ => .fail

theorem RParts_sound : FSound Try.prog 17 RPartsS := by
  refine fsound_pure Try.func17 (by kernel_rfl) rfl _ fun xs nx G d hp h => ?_
  unfold RPartsS at h
  split at h
  · rename_i r
    replace h := rd_opt h; obtain ⟨t, ht, h⟩ := h
    obtain ⟨ex, rfl⟩ := asTide_some ht
    have hd := rd_val h
    subst hd
    refine ⟨by simp [Try.f17], all1 (free_tide t ex), ?_⟩
    refine .step X16.sound (by kernel_rfl) (by simp; exact rfl) ?_ -- region 0
    refine .step X16.sound (by kernel_rfl) (by simp; exact rfl) ?_ -- region 1
    refine .seq (.step X16.sound (by kernel_rfl) (by simp; exact rfl) ?_) -- region 2
    refine .cond_split (by simp; exact rfl) (fun hc => ?_) (fun hc => ?_) -- t12
    · have hc' : checkT t ≠ 0 := by simpa using hc
      have : rPartsT t = (0, checkT t) := by simp [rPartsT, hc']
      rw [this]
      refine .step X16.sound (by kernel_rfl) (by simp; exact rfl) ?_ -- region 3
      exact .ret ⟨.inr rfl, ends_free (l := [.tmp 2, .tmp 3]) rfl (rs := [_, _]) (by simp) (fun k => by simp) (by simp)⟩
    · have hc' : checkT t = 0 := by simpa using hc
      have hok := check_ok hc'
      obtain ⟨⟨⟨a1, a2⟩, a3, a4⟩, _⟩ := id hok
      obtain ⟨hl1, hl2⟩ := rSolved_len t
      have hn60 : rSize t ≤ 60 := by unfold rSize; omega
      have : rPartsT t = ((((List.range (rSize t)).countP (rRoot t) : Nat) : Int), 0) := by simp [rPartsT, hc']
      rw [this]
      obtain ⟨n, hn⟩ : ∃ n, rSize t = n := ⟨_, rfl⟩
      rw [hn] at hl1 hl2 hn60 ⊢
      refine .skip ?_
      refine .step X16.sound (by kernel_rfl) (by simp [refSolved_at, hok, hn]; exact rfl) ?_ -- region 4
      refine .step X16.sound (by kernel_rfl) (by simp; exact rfl) ?_ -- region 5
      refine .seq (.step X16.sound (by kernel_rfl) (by simp; exact rfl) (.block ?_)) -- region 6
      refine .loopV (fun k st => ∃ j : Nat, j ≤ n ∧ k = n - j ∧ st = ⟨[(5, .sl 1 1 0 n), (7, .int .i64 ((List.range j).countP (rRoot t))), (8, .int .i64 j)], [(1, some (.row 1 (ints (rSolved t).1) 1 true))], 2, 3⟩) ?_ (View.norm _ [5, 7, 8] [1] 2 3 (by simp)) ⟨0, by omega, rfl, by simp⟩
      rintro k st ⟨j, hj, rfl, rfl⟩
      refine .seq (.step X16.sound (by kernel_rfl) (by simp; exact rfl) ?_) -- region 7
      refine .cond_split (by simp; exact rfl) (fun hc => ?_) (fun hc => ?_) -- t22
      · have hj' : j < n := by simpa using hc
        obtain ⟨x, hx, hxd⟩ := gD hl1 hj'
        have hr : rRoot t j = (x == (j : Int)) := by rw [rRoot, hxd]
        have hcnt : (List.range (j + 1)).countP (rRoot t) = (List.range j).countP (rRoot t) + if rRoot t j = true then 1 else 0 := by
          rw [List.range_succ, List.countP_append, List.countP_cons, List.countP_nil, Nat.zero_add]
        have hle : (List.range j).countP (rRoot t) ≤ j := by have := List.countP_le_length (p := rRoot t) (l := List.range j); simpa using this
        have hw1 : IntKind.i64.wrap ((j : Int) + 1) = (j : Int) + 1 := wrap64 (by omega) (by omega)
        generalize (List.range j).countP (rRoot t) = c at *
        have hw2 : IntKind.i64.wrap ((c : Int) + 1) = (c : Int) + 1 := wrap64 (by omega) (by omega)
        refine .skip (.seq (.block ?_))
        refine .step X16.sound (by kernel_rfl) (by simp [hj', hx]; exact rfl) ?_ -- region 9
        refine .cond_split (by simp; exact rfl) (fun hc => ?_) (fun hc => ?_) -- t30
        · rw [if_pos (by rw [hr]; exact hc)] at hcnt
          refine .region X16.sound (by kernel_rfl) (by simp [hw2]; exact rfl) ?_ -- region 10
          refine .region X16.sound (by kernel_rfl) (by simp [hw1]; exact rfl) ?_ -- region 8
          refine ⟨_, _, View.norm _ [5, 7, 8] [1] 2 3 (by simp), ?_, j + 1, by omega, rfl, ?_⟩
          · omega
          · rw [hcnt]; simp
        · rw [if_neg (by rw [hr, hc]; simp)] at hcnt
          refine .skip (.region X16.sound (by kernel_rfl) (by simp [hw1]; exact rfl) ?_) -- region 8
          refine ⟨_, _, View.norm _ [5, 7, 8] [1] 2 3 (by simp), ?_, j + 1, by omega, rfl, ?_⟩
          · omega
          · rw [hcnt]; simp
      · have : n = j := by simp at hc; omega
        subst this
        refine .exit (.step X16.sound (by kernel_rfl) (by simp; exact rfl) ?_) -- region 11
        exact .ret ⟨.inr rfl, ends_free (l := [.tmp 2, .tmp 3]) rfl (rs := [_, _]) (by simp) (fun k => by simp) (by simp)⟩
  · exact (rd_fail h).elim

def rSame (t : Tide) (h : Int) : Bool := (rSolved t).1.getD (rS t h) 0 == (rSolved t).1.getD (rM t h) 0
def rAt (t : Tide) (h : Int) : Int := IntKind.i64.wrap ((rSolved t).2.getD (rS t h) 0 + (rSolved t).2.getD (rM t h) 0)

def rValT (t : Tide) (h : Int) : Int × Int :=
  if rFitsT t ≠ 0 then (0, rFitsT t) else if 0 ≤ h ∧ h ≤ 100000 then (if rSame t h = true then (rAt t h, 0) else (0, 14)) else (0, 1)

def RValueS : FSpec := fun xs nx G => match xs with
  | [r, .int .i64 h] => ofOpt (asTide r) fun t => valR nx G (.tup [.int .i64 (rValT t h).1, .int .i64 (rValT t h).2])
  | _ => .fail

theorem RValue_sound : FSound Try.prog 34 RValueS := by
  refine fsound_pure Try.func34 (by kernel_rfl) rfl _ fun xs nx G d hp h => ?_
  unfold RValueS at h
  split at h
  · rename_i r k
    replace h := rd_opt h; obtain ⟨t, ht, h⟩ := h
    obtain ⟨ex, rfl⟩ := asTide_some ht
    have hd := rd_val h
    subst hd
    refine ⟨by simp [Try.f34], all2 (free_tide t ex) (.int _ _), ?_⟩
    refine .step X16.sound (by kernel_rfl) (by simp; exact rfl) ?_ -- region 0
    refine .step X16.sound (by kernel_rfl) (by simp; exact rfl) (.seq ?_) -- region 1
    by_cases hc : rFitsT t = 0
    · by_cases hr : 0 ≤ k ∧ k ≤ 100000
      · have hval : rValT t k = if rSame t k = true then (rAt t k, 0) else (0, 14) := by simp only [rValT, hc, ne_eq, not_true, if_false]; rw [if_pos hr]
        obtain ⟨h0, _⟩ := rFitsT_zero hc
        have hok := check_ok h0
        obtain ⟨⟨⟨a1, a2⟩, a3, a4⟩, _⟩ := id hok
        obtain ⟨hl1, hl2⟩ := rSolved_len t
        have hn60 : rSize t ≤ 60 := by unfold rSize; omega
        obtain ⟨s, m, hs, hm, hslt, hsn, hmn, _⟩ := node_of hok (x := (k, 0)) hr.1
        simp only at hs hm
        obtain ⟨ps, hps, hpsd⟩ := gD hl1 hsn
        obtain ⟨pm, hpm, hpmd⟩ := gD hl1 hmn
        obtain ⟨ws, hws, hwsd⟩ := gD hl2 hsn
        obtain ⟨wm, hwm, hwmd⟩ := gD hl2 hmn
        have e1 : rS t k = s := by unfold rS; omega
        have e2 : rM t k = m := by unfold rM; omega
        have hsame : rSame t k = (ps == pm) := by rw [rSame, e1, e2, hpsd, hpmd]
        have hat : rAt t k = IntKind.i64.wrap (ws + wm) := by rw [rAt, e1, e2, hwsd, hwmd]
        rw [hval, hsame, hat]
        have hwm1 : IntKind.i64.wrap (m : Int) = m := wrap64 (by omega) (by omega)
        have hsz : t.sun ≠ 0 := by omega
        have hmz : t.moon ≠ 0 := by omega
        refine .step X16.sound (by kernel_rfl) (by simp [hc, hr.1, hr.2]; exact rfl) ?_ -- region 2
        refine .cond (t := false) (by simp) (.skip ?_)
        refine .seq (.step X16.sound (by kernel_rfl) (by simp; exact rfl) ?_) -- region 4
        refine .cond (t := false) (by simp) (.skip ?_)
        refine .step X16.sound (by kernel_rfl) (by simp [refSolved_at, hok]; exact rfl) ?_ -- region 6
        refine .draw mixed X16.sound (by kernel_rfl) (by kernel_rfl) rfl (by simp [hsz, hmz, hs, hm, hwm1]; exact ⟨rfl, rfl⟩) (looseB_spec (by kernel_rfl)) ?_ -- region 7
        refine .seq (.draw mixed X16.sound (by kernel_rfl) (by kernel_rfl) rfl (by simp [hsn, hmn, hps, hpm]; exact ⟨rfl, rfl⟩) (looseB_spec (by kernel_rfl)) ?_) -- region 8
        refine .cond_split (by simp; exact rfl) (fun hc => ?_) (fun hc => ?_) -- t47
        · rw [if_neg (by simpa using hc)]
          refine .step X16.sound (by kernel_rfl) (by simp; exact rfl) ?_ -- region 9
          exact .ret ⟨.inr rfl, ends_free (l := [.tmp 4, .tmp 5]) rfl (rs := [_, _]) (by simp) (fun k => by simp) (by simp)⟩
        · rw [if_pos (by simpa using hc)]
          refine .skip ?_
          refine .draw mixed X16.sound (by kernel_rfl) (by kernel_rfl) rfl (by simp [hsn, hmn, hws, hwm]; exact ⟨rfl, rfl⟩) (looseB_spec (by kernel_rfl)) ?_ -- region 10
          exact .ret ⟨.inr rfl, ends_free (l := [.tmp 4, .tmp 5]) rfl (rs := [_, _]) (by simp) (fun k => by simp) (by simp)⟩
      · have hval : rValT t k = (0, 1) := by simp only [rValT, hc, ne_eq, not_true, if_false]; rw [if_neg hr]
        rw [hval]
        refine .step X16.sound (by kernel_rfl) (by simp [hc, neg_and hr]; exact rfl) ?_ -- region 2
        refine .cond (t := true) (by simp) ?_
        refine .region X16.sound (by kernel_rfl) (by simp; exact rfl) ?_ -- region 3
        refine .seq (.step X16.sound (by kernel_rfl) (by simp; exact rfl) ?_) -- region 4
        refine .cond (t := true) (by simp) ?_
        refine .step X16.sound (by kernel_rfl) (by simp; exact rfl) ?_ -- region 5
        exact .ret ⟨.inr rfl, ends_free (l := [.tmp 4, .tmp 5]) rfl (rs := [_, _]) (by simp) (fun k => by simp) (by simp)⟩
    · have hcb : (rFitsT t == 0) = false := by simpa using hc
      have hcn : (rFitsT t != 0) = true := by simpa using hc
      have hval : rValT t k = (0, rFitsT t) := by simp [rValT, hc]
      rw [hval]
      refine .step X16.sound (by kernel_rfl) (by simp [hcb]; exact rfl) ?_ -- region 2
      refine .cond (t := false) (by simp) (.skip ?_)
      refine .seq (.step X16.sound (by kernel_rfl) (by simp [hcn]; exact rfl) ?_) -- region 4
      refine .cond (t := true) (by simp) ?_
      refine .step X16.sound (by kernel_rfl) (by simp; exact rfl) ?_ -- region 5
      exact .ret ⟨.inr rfl, ends_free (l := [.tmp 4, .tmp 5]) rfl (rs := [_, _]) (by simp) (fun k => by simp) (by simp)⟩
  · exact (rd_fail h).elim

def rFollowL (t : Tide) : Nat → Int → List (Int × Int)
  | 0, _ => []
  | n + 1, h => (if rSame t h = true then [(h, rAt t h)] else []) ++ rFollowL t n (h + 1)

def rFollowT (t : Tide) (a b : Int) : List (Int × Int) × Int :=
  if rFitsT t ≠ 0 then ([], rFitsT t) else if (0 ≤ a ∧ a ≤ b) ∧ b ≤ 100000 ∧ b - a ≤ 1000 then (rFollowL t (b + 1 - a).toNat a, 0) else ([], 1)

def RFollowS : FSpec := fun xs nx G => match xs with
  | [r, .int .i64 a, .int .i64 b] => ofOpt (asTide r) fun t => valR nx G (.tup [.il (pairs (rFollowT t a b).1) (decide ((rFollowT t a b).2 ≠ 0)), .int .i64 (rFollowT t a b).2])
  | _ => .fail

theorem RFollow_sound : FSound Try.prog 36 RFollowS := by
  refine fsound_pure Try.func36 (by kernel_rfl) rfl _ fun xs nx G d hp h => ?_
  unfold RFollowS at h
  split at h
  · rename_i r a b
    replace h := rd_opt h; obtain ⟨t, ht, h⟩ := h
    obtain ⟨ex, rfl⟩ := asTide_some ht
    have hd := rd_val h
    subst hd
    refine ⟨by simp [Try.f36], all3 (free_tide t ex) (.int _ _) (.int _ _), ?_⟩
    refine .step X16.sound (by kernel_rfl) (by simp; exact rfl) ?_ -- region 0
    refine .step X16.sound (by kernel_rfl) (by simp; exact rfl) ?_ -- region 1
    by_cases hc : rFitsT t = 0
    · by_cases hr : (0 ≤ a ∧ a ≤ b) ∧ b ≤ 100000 ∧ b - a ≤ 1000
      · obtain ⟨⟨r1, r2⟩, r3, r4⟩ := hr
        have hw : IntKind.i64.wrap (b - a) = b - a := wrap64 (by omega) (by omega)
        have n1 : ¬ 100000 < b := by omega
        have n2 : ¬ 1000 < b - a := by omega
        have hf : rFollowT t a b = (rFollowL t (b + 1 - a).toNat a, 0) := by simp only [rFollowT, hc, ne_eq, not_true, if_false]; rw [if_pos ⟨⟨r1, r2⟩, r3, r4⟩]
        rw [hf]
        obtain ⟨n, hn⟩ : ∃ n : Nat, (b + 1 - a).toNat = n := ⟨_, rfl⟩
        rw [hn]
        obtain ⟨h0, _⟩ := rFitsT_zero hc
        have hok := check_ok h0
        obtain ⟨⟨⟨a1, a2⟩, a3, a4⟩, _⟩ := id hok
        obtain ⟨hl1, hl2⟩ := rSolved_len t
        have hn60 : rSize t ≤ 60 := by unfold rSize; omega
        have hsz : t.sun ≠ 0 := by omega
        have hmz : t.moon ≠ 0 := by omega
        refine .seq (.step X16.sound (by kernel_rfl) (by simp [hc, r1, r2, hw, n1, n2]; exact rfl) ?_) -- region 2
        refine .cond (t := false) (by simp) (.skip ?_)
        refine .seq (.step X16.sound (by kernel_rfl) (by simp; exact rfl) ?_) -- region 4
        refine .cond (t := false) (by simp) (.skip ?_)
        refine .step X16.sound (by kernel_rfl) (by simp [refSolved_at, hok]; exact rfl) ?_ -- region 6
        refine .step X16.sound (by kernel_rfl) (by simp; exact rfl) ?_ -- region 7
        refine .view (View.virt _ 11 3 2 true (by simp)) ?_
        refine .seq (.step X16.sound (by kernel_rfl) (by simp; exact rfl) (.block ?_)) -- region 8
        refine .loopV (fun k st => ∃ (j : Nat) (acc : List (Int × Int)) (g G : Nat), j ≤ n ∧ k = n - j ∧ acc.length ≤ j ∧ acc ++ rFollowL t (n - j) (a + j) = rFollowL t n a ∧
          st = ⟨[(2, .int .i64 b), (3, .ptr 0 0 0 0), (9, .sl 1 1 0 (rSize t)), (10, .sl 2 2 0 (rSize t)), (11, .sl 3 g 0 acc.length), (12, .int .i64 (a + j))], [(0, some (.row 3 [tideC t ex] 0 true)), (1, some (.row 1 (ints (rSolved t).1) 1 true)), (2, some (.row 1 (ints (rSolved t).2) 2 true)), (3, some (.row 2 (pairs acc) g true))], 4, G⟩) ?_ (View.norm _ [2, 3, 9, 10, 11, 12] [0, 1, 2, 3] 4 4 (by simp)) ⟨0, [], 3, 4, by omega, rfl, by simp, by simp, by simp⟩
        rintro k st ⟨j, acc, g, G1, hj, rfl, hlen, hall, rfl⟩
        refine .seq (.step X16.sound (by kernel_rfl) (by simp; exact rfl) ?_) -- region 9
        refine .cond_split (by simp; exact rfl) (fun hc => ?_) (fun hc => ?_) -- t46
        · have hjn : j < n := by simp at hc; omega
          have hw1 : IntKind.i64.wrap (a + ((j : Int) + 1)) = a + ((j : Int) + 1) := wrap64 (by omega) (by omega)
          have hnj : n - j = (n - (j + 1)) + 1 := by omega
          have ha1 : a + (j : Int) + 1 = a + ((j + 1 : Nat) : Int) := by omega
          rw [hnj, rFollowL, ha1] at hall
          obtain ⟨s, m, hs, hm, hslt, hsn, hmn, _⟩ := node_of hok (x := (a + j, 0)) (by simp only; omega)
          simp only at hs hm
          obtain ⟨ps, hps, hpsd⟩ := gD hl1 hsn
          obtain ⟨pm, hpm, hpmd⟩ := gD hl1 hmn
          obtain ⟨ws, hws, hwsd⟩ := gD hl2 hsn
          obtain ⟨wm, hwm, hwmd⟩ := gD hl2 hmn
          have e1 : rS t (a + j) = s := by unfold rS; omega
          have e2 : rM t (a + j) = m := by unfold rM; omega
          have hsame : rSame t (a + j) = (ps == pm) := by rw [rSame, e1, e2, hpsd, hpmd]
          have hat : rAt t (a + j) = IntKind.i64.wrap (ws + wm) := by rw [rAt, e1, e2, hwsd, hwmd]
          have hwm1 : IntKind.i64.wrap (m : Int) = m := wrap64 (by omega) (by omega)
          rw [hsame, hat] at hall
          refine .skip (.seq (.block ?_))
          refine .draw mixed X16.sound (by kernel_rfl) (by kernel_rfl) rfl (by simp [hsz, hmz, hs, hm, hwm1]; exact ⟨rfl, rfl⟩) (looseB_spec (by kernel_rfl)) ?_ -- region 11
          refine .draw mixed X16.sound (by kernel_rfl) (by kernel_rfl) rfl (by simp [hsn, hmn, hps, hpm]; exact ⟨rfl, rfl⟩) (looseB_spec (by kernel_rfl)) ?_ -- region 12
          refine .cond_split (by simp; exact rfl) (fun hc => ?_) (fun hc => ?_) -- t68
          · have hroom : (acc.length + 1) * 16 ≤ room := by simp [room]; omega
            rw [if_pos hc] at hall
            refine .drawn mixed X16.sound (by kernel_rfl) (by kernel_rfl) (runD_tr (by simp [hsn, hmn, hws, hwm, elems, appR, hroom]; exact ⟨rfl, rfl⟩)) (looseB_spec (by kernel_rfl)) ?_ -- region 13
            refine .region X16.sound (by kernel_rfl) (by simp; exact rfl) ?_ -- region 10
            refine ⟨_, _, View.norm _ [2, 3, 9, 10, 11, 12] [0, 1, 2, 3] 4 (G1 + 2) (by simp), ?_, j + 1, acc ++ [(a + j, IntKind.i64.wrap (ws + wm))], G1 + 1, G1 + 2, by omega, rfl, by simp; omega, by rw [← hall]; simp, ?_⟩
            · omega
            · simp [Int.add_assoc, hw1]
              rw [List.take_of_length_le (by simp)]
          · rw [if_neg (by rw [hc]; simp)] at hall
            refine .skip (.region X16.sound (by kernel_rfl) (by simp; exact rfl) ?_) -- region 10
            refine ⟨_, _, View.norm _ [2, 3, 9, 10, 11, 12] [0, 1, 2, 3] 4 G1 (by simp), ?_, j + 1, acc, g, G1, by omega, rfl, by omega, by simpa using hall, ?_⟩
            · omega
            · simp [Int.add_assoc, hw1]
        · have hjn : j = n := by simp at hc; omega
          subst hjn
          simp only [Nat.sub_self, rFollowL, List.append_nil] at hall
          rw [← hall]
          refine .exit (.step X16.sound (by kernel_rfl) (by simp; exact rfl) ?_) -- region 14
          refine .view (View.fzT _ 6 (by simp; exact ⟨rfl, rfl⟩)) ?_
          exact .ret ⟨.inr rfl, ends_free (l := [.tmp 6, .tmp 7]) rfl (rs := [.il (pairs acc) false, .int .i64 0]) (by simp; exact List.take_of_length_le (by simp)) (fun k => by simp) (all2 (free_pairs _ _) (.int _ _))⟩
      · have hf : rFollowT t a b = ([], 1) := by simp only [rFollowT, hc, ne_eq, not_true, if_false]; rw [if_neg hr]
        rw [hf]
        refine .cutI (fun s => tget s.tmps 8 = .int .i64 1) ?_ fun s0 hs0 => ?_
        · by_cases r1 : 0 ≤ a ∧ a ≤ b
          · by_cases r2 : b ≤ 100000
            · have r3 : 1000 < b - a := by
                have : ¬ b - a ≤ 1000 := fun h => hr ⟨r1, r2, h⟩
                omega
              have hw : IntKind.i64.wrap (b - a) = b - a := wrap64 (by omega) (by omega)
              have n1 : ¬ 100000 < b := by omega
              refine .step X16.sound (by kernel_rfl) (by simp [hc, r1.1, r1.2, hw, n1, r3]; exact rfl) ?_ -- region 2
              exact .cond (t := true) (by simp) (.region X16.sound (by kernel_rfl) (by simp; exact rfl) ⟨_, View.refl _, by simp⟩)
            · have n1 : 100000 < b := by omega
              refine .step X16.sound (by kernel_rfl) (by simp [hc, r1.1, r1.2, n1]; exact rfl) ?_ -- region 2
              exact .cond (t := true) (by simp) (.region X16.sound (by kernel_rfl) (by simp; exact rfl) ⟨_, View.refl _, by simp⟩)
          · refine .step X16.sound (by kernel_rfl) (by simp [hc, neg_and r1]; exact rfl) ?_ -- region 2
            exact .cond (t := true) (by simp) (.region X16.sound (by kernel_rfl) (by simp; exact rfl) ⟨_, View.refl _, by simp⟩)
        · refine .seq (.step X16.sound (by kernel_rfl) (by simp [hs0]; exact rfl) ?_) -- region 4
          refine .cond (t := true) (by simp) ?_
          refine .step X16.sound (by kernel_rfl) (by simp [hs0]; exact rfl) ?_ -- region 5
          exact .ret ⟨.inr rfl, ends_free (l := [.tmp 6, .tmp 7]) rfl (rs := [.il [] true, .int .i64 1]) (by simp) (fun k => by simp) (by simp)⟩
    · have hcb : (rFitsT t == 0) = false := by simpa using hc
      have hcn : (rFitsT t != 0) = true := by simpa using hc
      have hval : rFollowT t a b = ([], rFitsT t) := by simp [rFollowT, hc]
      rw [hval]
      refine .seq (.step X16.sound (by kernel_rfl) (by simp [hcb]; exact rfl) ?_) -- region 2
      refine .cond (t := false) (by simp) (.skip ?_)
      refine .seq (.step X16.sound (by kernel_rfl) (by simp [hcn]; exact rfl) ?_) -- region 4
      refine .cond (t := true) (by simp) ?_
      refine .step X16.sound (by kernel_rfl) (by simp; exact rfl) ?_ -- region 5
      exact .ret ⟨.inr rfl, by simp only; rw [decide_eq_true hc]; exact ends_free (l := [.tmp 6, .tmp 7]) rfl (rs := [.il [] true, .int .i64 (rFitsT t)]) (by simp) (fun k => by simp) (by simp)⟩
  · exact (rd_fail h).elim

end Go.Proofs.Ytlidakhdcnkabaa
