/- Value, Follow. Parts: a loop over a map. Reverse, Grow, Concat. Grow and Concat, for numbers and for readings. No condition. -/
import Derived.Test.YtlidakhdcnkabaaM13
import Derived.Test.YtlidakhdcnkabaaM08
namespace Go.Proofs.Ytlidakhdcnkabaa
open Go.AI
set_option linter.unusedSimpArgs false

theorem free_pairs (l : List (Int × Int)) (ex : Bool) : Free (.il (pairs l) ex) := .il _ _ (free_rows _ _ fun x a ha => by simp at ha; rcases ha with rfl | rfl <;> exact .int _ _)
theorem free_ints (l : List Int) (ex : Bool) : Free (.il (ints l) ex) := .il _ _ (free_rows _ _ fun x a ha => by simp at ha; subst ha; exact .int _ _)
theorem all1 {p : AVal → Prop} {a : AVal} (ha : p a) : ∀ v ∈ [a], p v := fun v hv => by simp only [List.mem_cons, List.not_mem_nil, or_false] at hv; subst hv; exact ha
theorem all2 {p : AVal → Prop} {a b : AVal} (ha : p a) (hb : p b) : ∀ v ∈ [a, b], p v := fun v hv => by simp only [List.mem_cons, List.not_mem_nil, or_false] at hv; rcases hv with rfl | rfl; exact ha; exact hb
theorem all3 {p : AVal → Prop} {a b c : AVal} (ha : p a) (hb : p b) (hc : p c) : ∀ v ∈ [a, b, c], p v := fun v hv => by simp only [List.mem_cons, List.not_mem_nil, or_false] at hv; rcases hv with rfl | rfl | rfl; exact ha; exact hb; exact hc

theorem neg_and {a b c : Int} (hn : ¬ (a ≤ b ∧ b ≤ c)) : (decide (a ≤ b) && decide (b ≤ c)) = false := by rw [← Bool.decide_and]; simpa using hn

theorem solvedT_zero {t : Tide} (h : (solvedT t).2 = 0) : checkT t = 0 ∧ solvedT t = (solve t, 0) ∧ ¬ 0 ≤ badIx (solve t) t 0 t.rs := by
  unfold solvedT at h ⊢
  split at h
  · rename_i h1; exact absurd h h1
  · rename_i h1
    split at h
    · cases h
    · rename_i h2
      rw [if_neg h1, if_neg h2]
      exact ⟨by simpa using h1, rfl, h2⟩

def wAt (s : List (Node × Edge)) (t : Tide) (h : Int) : Int := IntKind.i64.wrap ((atSun s t h).w + (atMoon s t h).w)
def sameAt (s : List (Node × Edge)) (t : Tide) (h : Int) : Bool := decide ((atSun s t h).root = (atMoon s t h).root)

theorem value_at (t : Tide) (ex : Bool) (s : List (Node × Edge)) (h : Int) (h1 : t.sun ≠ 0) (h2 : t.moon ≠ 0) (nx G : Nat) : valueS [tideA t ex, .im (kvs nodA edgeA s), .int .i64 h] nx G = valR nx G (.tup [.int .i64 (wAt s t h), .bool (sameAt s t h)]) := by
  have e2 := asSol_kvs s
  simp only [kvs] at e2
  simp [valueS, h1, h2, e2, wAt, sameAt]

def valT (t : Tide) (h : Int) : Int × Int :=
  if (solvedT t).2 ≠ 0 then (0, (solvedT t).2) else if 0 ≤ h ∧ h ≤ 100000 then (if sameAt (solve t) t h = true then (wAt (solve t) t h, 0) else (0, 14)) else (0, 1)

def ValueS : FSpec := fun xs nx G => match xs with
  | [r, .int .i64 h] => ofOpt (asTide r) fun t => valR nx G (.tup [.int .i64 (valT t h).1, .int .i64 (valT t h).2])
  | _ => .fail

theorem Value_sound : FSound Try.prog 33 ValueS := by
  refine fsound_pure Try.func33 (by kernel_rfl) rfl _ fun xs nx G d hp h => ?_
  unfold ValueS at h
  split at h
  · rename_i r k
    replace h := rd_opt h; obtain ⟨t, ht, h⟩ := h
    obtain ⟨ex, rfl⟩ := asTide_some ht
    have hd := rd_val h
    subst hd
    refine ⟨by simp [Try.f33], all2 (free_tide t ex) (.int _ _), ?_⟩
    refine .step X9.sound (by kernel_rfl) (by simp; exact rfl) ?_ -- region 0
    refine .step X9.sound (by kernel_rfl) (by simp; exact rfl) ?_ -- region 1
    refine .seq (.block ?_)
    refine .step X9.sound (by kernel_rfl) (by simp; exact rfl) ?_ -- region 2
    refine .cond_split (by simp; exact rfl) (fun hc => ?_) (fun hc => ?_) -- t15
    · have hc' : (solvedT t).2 ≠ 0 := by simpa using hc
      have : valT t k = (0, (solvedT t).2) := by simp [valT, hc']
      rw [this]
      refine .step X9.sound (by kernel_rfl) (by simp; exact rfl) ?_ -- region 3
      exact .ret ⟨.inr rfl, ends_free (l := [.tmp 4, .tmp 5]) rfl (rs := [_, _]) (by simp) (fun k => by simp) (by simp)⟩
    · have hc' : (solvedT t).2 = 0 := by simpa using hc
      obtain ⟨h0, hs, _⟩ := solvedT_zero hc'
      obtain ⟨k1, k2, _⟩ := checkT_zero h0
      have h1 : t.sun ≠ 0 := by omega
      have h2 : t.moon ≠ 0 := by omega
      rw [hs]
      by_cases hr : 0 ≤ k ∧ k ≤ 100000
      · refine .step X9.sound (by kernel_rfl) (by simp [hr.1, hr.2]; exact rfl) ?_ -- region 4
        refine .cond (t := false) (by simp) (.skip ?_)
        refine .seq (.step X9.sound (by kernel_rfl) (by simp [value_at, h1, h2]; exact rfl) ?_) -- region 6
        refine .step X9.sound (by kernel_rfl) (by simp; exact rfl) ?_ -- region 7
        refine .cond_split (by simp; exact rfl) (fun hc => ?_) (fun hc => ?_) -- t30
        · have : valT t k = (wAt (solve t) t k, 0) := by simp [valT, hc', hr, hc]
          rw [this]
          refine .step X9.sound (by kernel_rfl) (by simp; exact rfl) ?_ -- region 8
          exact .ret ⟨.inr rfl, ends_free (l := [.tmp 4, .tmp 5]) rfl (rs := [_, _]) (by simp) (fun k => by simp) (by simp)⟩
        · have : valT t k = (0, 14) := by simp [valT, hc', hr, hc]
          rw [this]
          refine .skip ?_
          refine .step X9.sound (by kernel_rfl) (by simp; exact rfl) ?_ -- region 9
          exact .ret ⟨.inr rfl, ends_free (l := [.tmp 4, .tmp 5]) rfl (rs := [_, _]) (by simp) (fun k => by simp) (by simp)⟩
      · have : valT t k = (0, 1) := by simp only [valT, hc', ne_eq, not_true, if_false]; rw [if_neg hr]
        rw [this]
        refine .step X9.sound (by kernel_rfl) (by simp [neg_and hr]; exact rfl) ?_ -- region 4
        refine .cond (t := true) (by simp) ?_
        refine .step X9.sound (by kernel_rfl) (by simp; exact rfl) ?_ -- region 5
        exact .ret ⟨.inr rfl, ends_free (l := [.tmp 4, .tmp 5]) rfl (rs := [_, _]) (by simp) (fun k => by simp) (by simp)⟩
  · exact (rd_fail h).elim

def followL (s : List (Node × Edge)) (t : Tide) : Nat → Int → List (Int × Int)
  | 0, _ => []
  | n + 1, h => (if sameAt s t h = true then [(h, wAt s t h)] else []) ++ followL s t n (h + 1)

def followT (t : Tide) (a b : Int) : List (Int × Int) × Int :=
  if (solvedT t).2 ≠ 0 then ([], (solvedT t).2) else if (0 ≤ a ∧ a ≤ b) ∧ b ≤ 100000 ∧ b - a ≤ 1000 then (followL (solve t) t (b + 1 - a).toNat a, 0) else ([], 1)

def FollowS : FSpec := fun xs nx G => match xs with
  | [r, .int .i64 a, .int .i64 b] => ofOpt (asTide r) fun t => valR nx G (.tup [.il (pairs (followT t a b).1) (decide ((followT t a b).2 ≠ 0)), .int .i64 (followT t a b).2])
  | _ => .fail

theorem Follow_sound : FSound Try.prog 35 FollowS := by
  refine fsound_pure Try.func35 (by kernel_rfl) rfl _ fun xs nx G d hp h => ?_
  unfold FollowS at h
  split at h
  · rename_i r a b
    replace h := rd_opt h; obtain ⟨t, ht, h⟩ := h
    obtain ⟨ex, rfl⟩ := asTide_some ht
    have hd := rd_val h
    subst hd
    refine ⟨by simp [Try.f35], all3 (free_tide t ex) (.int _ _) (.int _ _), ?_⟩
    refine .step X9.sound (by kernel_rfl) (by simp; exact rfl) ?_ -- region 0
    refine .step X9.sound (by kernel_rfl) (by simp; exact rfl) ?_ -- region 1
    refine .seq (.block ?_)
    refine .step X9.sound (by kernel_rfl) (by simp; exact rfl) ?_ -- region 2
    refine .cond_split (by simp; exact rfl) (fun hc => ?_) (fun hc => ?_) -- t19
    · have hc' : (solvedT t).2 ≠ 0 := by simpa using hc
      have : followT t a b = ([], (solvedT t).2) := by simp [followT, hc']
      rw [this]
      refine .step X9.sound (by kernel_rfl) (by simp; exact rfl) ?_ -- region 3
      exact .ret ⟨.inr rfl, by rw [decide_eq_true hc']; exact ends_free (l := [.tmp 6, .tmp 7]) rfl (rs := [.il [] true, .int .i64 (solvedT t).2]) (by simp) (fun k => by simp) (by simp)⟩
    · have hc' : (solvedT t).2 = 0 := by simpa using hc
      obtain ⟨h0, hs, _⟩ := solvedT_zero hc'
      obtain ⟨k1, k2, _⟩ := checkT_zero h0
      have h1 : t.sun ≠ 0 := by omega
      have h2 : t.moon ≠ 0 := by omega
      rw [hs]
      by_cases hr : (0 ≤ a ∧ a ≤ b) ∧ b ≤ 100000 ∧ b - a ≤ 1000
      · obtain ⟨⟨r1, r2⟩, r3, r4⟩ := hr
        have hw : IntKind.i64.wrap (b - a) = b - a := wrap64 (by omega) (by omega)
        have n1 : ¬ 100000 < b := by omega
        have n2 : ¬ 1000 < b - a := by omega
        have hf : followT t a b = (followL (solve t) t (b + 1 - a).toNat a, 0) := by simp only [followT, hc', ne_eq, not_true, if_false]; rw [if_pos ⟨⟨r1, r2⟩, r3, r4⟩]
        rw [hf]
        obtain ⟨n, hn⟩ : ∃ n : Nat, (b + 1 - a).toNat = n := ⟨_, rfl⟩
        rw [hn]
        refine .step X9.sound (by kernel_rfl) (by simp [r1, r2, hw, n1, n2]; exact rfl) ?_ -- region 4
        refine .cond (t := false) (by simp) (.skip ?_)
        refine .step X9.sound (by kernel_rfl) (by simp; exact rfl) ?_ -- region 6
        refine .view (View.virt _ 10 1 2 true (by simp)) ?_
        refine .seq (.step X9.sound (by kernel_rfl) (by simp; exact rfl) (.block ?_)) -- region 7
        refine .loopV (fun k st => ∃ (j : Nat) (acc : List (Int × Int)) (g G : Nat), j ≤ n ∧ k = n - j ∧ acc.length ≤ j ∧ acc ++ followL (solve t) t (n - j) (a + j) = followL (solve t) t n a ∧
          st = ⟨[(2, .int .i64 b), (3, .ptr 0 0 0 0), (8, .im (kvs nodA edgeA (solve t))), (10, .sl 1 g 0 acc.length), (11, .int .i64 (a + j))], [(0, some (.row 3 [tideC t ex] 0 true)), (1, some (.row 2 (pairs acc) g true))], 2, G⟩) ?_ (View.norm _ [2, 3, 8, 10, 11] [0, 1] 2 2 (by simp)) ⟨0, [], 1, 2, by omega, rfl, by simp, by simp, by simp⟩
        rintro k st ⟨j, acc, g, G1, hj, rfl, hlen, hall, rfl⟩
        refine .seq (.step X9.sound (by kernel_rfl) (by simp; exact rfl) ?_) -- region 8
        refine .cond_split (by simp; exact rfl) (fun hc => ?_) (fun hc => ?_) -- t41
        · have hjn : j < n := by simp at hc; omega
          have hw1 : IntKind.i64.wrap (a + ((j : Int) + 1)) = a + ((j : Int) + 1) := wrap64 (by omega) (by omega)
          have hnj : n - j = (n - (j + 1)) + 1 := by omega
          have ha1 : a + (j : Int) + 1 = a + ((j + 1 : Nat) : Int) := by omega
          rw [hnj, followL, ha1] at hall
          refine .skip (.seq (.block ?_))
          refine .step X9.sound (by kernel_rfl) (by simp [value_at, h1, h2]; exact rfl) ?_ -- region 10
          refine .step X9.sound (by kernel_rfl) (by simp; exact rfl) ?_ -- region 11
          refine .cond_split (by simp; exact rfl) (fun hc => ?_) (fun hc => ?_) -- t51
          · have hroom : (acc.length + 1) * 16 ≤ room := by simp [room]; omega
            rw [if_pos hc] at hall
            refine .region X9.sound (by kernel_rfl) (by simp [elems, appR, hroom]; exact rfl) ?_ -- region 12
            refine .region X9.sound (by kernel_rfl) (by simp; exact rfl) ?_ -- region 9
            refine ⟨_, _, View.norm _ [2, 3, 8, 10, 11] [0, 1] 2 (G1 + 2) (by simp), ?_, j + 1, acc ++ [(a + j, wAt (solve t) t (a + j))], G1 + 1, G1 + 2, by omega, rfl, by simp; omega, by rw [← hall]; simp, ?_⟩
            · omega
            · simp [Int.add_assoc, hw1]
              rw [List.take_of_length_le (by simp)]
          · rw [if_neg (by rw [hc]; simp)] at hall
            refine .skip (.region X9.sound (by kernel_rfl) (by simp; exact rfl) ?_) -- region 9
            refine ⟨_, _, View.norm _ [2, 3, 8, 10, 11] [0, 1] 2 G1 (by simp), ?_, j + 1, acc, g, G1, by omega, rfl, by omega, by simpa using hall, ?_⟩
            · omega
            · simp [Int.add_assoc, hw1]
        · have hjn : j = n := by simp at hc; omega
          subst hjn
          simp only [Nat.sub_self, followL, List.append_nil] at hall
          rw [← hall]
          refine .exit (.step X9.sound (by kernel_rfl) (by simp; exact rfl) ?_) -- region 13
          refine .view (View.fzT _ 6 (by simp; exact ⟨rfl, rfl⟩)) ?_
          exact .ret ⟨.inr rfl, ends_free (l := [.tmp 6, .tmp 7]) rfl (rs := [.il (pairs acc) false, .int .i64 0]) (by simp; exact List.take_of_length_le (by simp)) (fun k => by simp) (all2 (free_pairs _ _) (.int _ _))⟩
      · have hf : followT t a b = ([], 1) := by simp only [followT, hc', ne_eq, not_true, if_false]; rw [if_neg hr]
        rw [hf]
        by_cases r1 : 0 ≤ a ∧ a ≤ b
        · by_cases r2 : b ≤ 100000
          · have r3 : 1000 < b - a := by
              have : ¬ b - a ≤ 1000 := fun h => hr ⟨r1, r2, h⟩
              omega
            have hw : IntKind.i64.wrap (b - a) = b - a := wrap64 (by omega) (by omega)
            have n1 : ¬ 100000 < b := by omega
            refine .step X9.sound (by kernel_rfl) (by simp [r1.1, r1.2, hw, n1, r3]; exact rfl) ?_ -- region 4
            refine .cond (t := true) (by simp) ?_
            refine .step X9.sound (by kernel_rfl) (by simp; exact rfl) ?_ -- region 5
            exact .ret ⟨.inr rfl, ends_free (l := [.tmp 6, .tmp 7]) rfl (rs := [.il [] true, .int .i64 1]) (by simp) (fun k => by simp) (by simp)⟩
          · have n1 : 100000 < b := by omega
            refine .step X9.sound (by kernel_rfl) (by simp [r1.1, r1.2, n1]; exact rfl) ?_ -- region 4
            refine .cond (t := true) (by simp) ?_
            refine .step X9.sound (by kernel_rfl) (by simp; exact rfl) ?_ -- region 5
            exact .ret ⟨.inr rfl, ends_free (l := [.tmp 6, .tmp 7]) rfl (rs := [.il [] true, .int .i64 1]) (by simp) (fun k => by simp) (by simp)⟩
        · refine .step X9.sound (by kernel_rfl) (by simp [neg_and r1]; exact rfl) ?_ -- region 4
          refine .cond (t := true) (by simp) ?_
          refine .step X9.sound (by kernel_rfl) (by simp; exact rfl) ?_ -- region 5
          exact .ret ⟨.inr rfl, ends_free (l := [.tmp 6, .tmp 7]) rfl (rs := [.il [] true, .int .i64 1]) (by simp) (fun k => by simp) (by simp)⟩
  · exact (rd_fail h).elim

end Go.Proofs.Ytlidakhdcnkabaa

namespace Go.Proofs.Ytlidakhdcnkabaa
open Go.AI
set_option linter.unusedSimpArgs false

/-- Counting along places in any order. -/
def cntAt {α : Type} (p : α → Bool) (l : List α) (done : List Nat) : Nat := (done.filter fun i => (l[i]?).any p).length

theorem cntAt_le {α : Type} (p : α → Bool) (l : List α) (done : List Nat) : cntAt p l done ≤ done.length := List.length_filter_le _ _

theorem cntAt_cons {α : Type} (p : α → Bool) (l : List α) (done : List Nat) (i : Nat) (x : α) (h : l[i]? = some x) : cntAt p l (i :: done) = cntAt p l done + if p x = true then 1 else 0 := by
  simp only [cntAt, List.filter_cons, h, Option.any_some]
  split <;> simp_all

theorem cntAt_all {α : Type} (p : α → Bool) (l : List α) (done : List Nat) (hn : done.Nodup) (h : ∀ j, j ∈ done ↔ j < l.length) : cntAt p l done = l.countP p := by
  have hp : done.Perm (List.range l.length) := (List.perm_ext_iff_of_nodup hn List.nodup_range).2 fun j => by rw [h, List.mem_range]
  have h1 : cntAt p l done = cntAt p l (List.range l.length) := (hp.filter _).length_eq
  rw [h1]
  clear h1 hp h hn
  have key : ∀ (l pre : List α), (((List.range' pre.length l.length).filter fun i => ((pre ++ l)[i]?).any p)).length = l.countP p := by
    intro l
    induction l with
    | nil => intro r; rfl
    | cons x l ih =>
      intro pre
      have h2 := ih (pre ++ [x])
      simp only [List.length_append, List.length_cons, List.length_nil, Nat.zero_add, List.append_assoc, List.singleton_append] at h2
      rw [List.length_cons, List.range'_succ, List.filter_cons, List.countP_cons, ← h2]
      have h3 : (pre ++ x :: l)[pre.length]? = some x := by simp
      simp only [h3, Option.any_some]
      split <;> simp
  have := key l []
  simp only [List.length_nil, List.nil_append] at this
  rw [cntAt, List.range_eq_range']
  exact this

theorem along_sum (t : Tide) (go : Node → Edge → Found → Found) (hgo : ∀ n e v, v.has n = true → (go n e v).todo.length + (go n e v).sol.length ≤ v.todo.length + v.sol.length) (n : Node) (e : Edge) : ∀ (l : List (Int × Int)) (i : Nat) (v : Found), (along t go n e i l v).todo.length + (along t go n e i l v).sol.length ≤ v.todo.length + v.sol.length
  | [], _, _ => Nat.le_refl _
  | r :: l, i, v => by
    unfold along
    refine Nat.le_trans (along_sum t go hgo n e l _ _) ?_
    split
    · rename_i h; exact hgo _ _ _ h.2
    split
    · rename_i h; exact hgo _ _ _ h.2
    · exact Nat.le_refl _

theorem visit_sum (t : Tide) : ∀ (f : Nat) (n : Node) (e : Edge) (v : Found), v.has n = true → (visit t f n e v).todo.length + (visit t f n e v).sol.length ≤ v.todo.length + v.sol.length
  | 0, _, _, _, _ => Nat.le_refl _
  | f + 1, n, e, v, h => by
    unfold visit
    refine Nat.le_trans (along_sum t _ (visit_sum t f) n e _ _ _) ?_
    have h1 := delK_len (has_some h)
    have h2 := upK_len n e v.sol
    simp only
    omega

theorem roots_sum (t : Tide) : ∀ (l : List Node) (v : Found), (roots t l v).todo.length + (roots t l v).sol.length ≤ v.todo.length + v.sol.length
  | [], _ => Nat.le_refl _
  | n :: l, v => by
    unfold roots
    refine Nat.le_trans (roots_sum t l _) ?_
    split
    · rename_i h; exact visit_sum _ _ _ _ _ h
    · exact Nat.le_refl _

theorem all_nodes_len (t : Tide) (h1 : t.sun ≤ 30) (h2 : t.moon ≤ 30) : (allNodes t).length ≤ 60 := by simp [allNodes]; omega

theorem solve_len (t : Tide) (h1 : t.sun ≤ 30) (h2 : t.moon ≤ 30) : (solve t).length ≤ 60 := by
  have h3 := roots_sum t (allNodes t) ⟨first (allNodes t), []⟩
  have h4 := first_len (allNodes t)
  have h5 := all_nodes_len t h1 h2
  show (roots t (allNodes t) ⟨first (allNodes t), []⟩).sol.length ≤ 60
  simp only [List.length_nil] at h3
  omega

def isRoot (p : Node × Edge) : Bool := sameN p.2.root p.1

def partsT (t : Tide) : Int × Int := if checkT t ≠ 0 then (0, checkT t) else ((solve t).countP isRoot, 0)

def PartsS : FSpec := fun xs nx G => match xs with
  | [r] => ofOpt (asTide r) fun t => valR nx G (.tup [.int .i64 (partsT t).1, .int .i64 (partsT t).2])
  | _ => .fail

theorem Parts_sound : FSound Try.prog 16 PartsS := by
  refine fsound_pure Try.func16 (by kernel_rfl) rfl _ fun xs nx G d hp h => ?_
  unfold PartsS at h
  split at h
  · rename_i r
    replace h := rd_opt h; obtain ⟨t, ht, h⟩ := h
    obtain ⟨ex, rfl⟩ := asTide_some ht
    have hd := rd_val h
    subst hd
    refine ⟨by simp [Try.f16], all1 (free_tide t ex), ?_⟩
    refine .step X8.sound (by kernel_rfl) (by simp; exact rfl) ?_ -- region 0
    refine .seq (.step X8.sound (by kernel_rfl) (by simp; exact rfl) ?_) -- region 1
    refine .step X8.sound (by kernel_rfl) (by simp; exact rfl) ?_ -- region 2
    refine .cond_split (by simp; exact rfl) (fun hc => ?_) (fun hc => ?_) -- t11
    · have hc' : checkT t ≠ 0 := by simpa using hc
      have : partsT t = (0, checkT t) := by simp [partsT, hc']
      rw [this]
      refine .step X8.sound (by kernel_rfl) (by simp; exact rfl) ?_ -- region 3
      exact .ret ⟨.inr rfl, ends_free (l := [.tmp 2, .tmp 3]) rfl (rs := [_, _]) (by simp) (fun k => by simp) (by simp)⟩
    · have hc' : checkT t = 0 := by simpa using hc
      obtain ⟨h1, h2, _⟩ := checkT_zero hc'
      have : partsT t = ((((solve t).countP isRoot : Nat) : Int), 0) := by simp [partsT, hc']
      rw [this]
      refine .skip ?_
      refine .step X8.sound (by kernel_rfl) (by simp; exact rfl) ?_ -- region 4
      refine .seq (.rangeMap X8.sound (k := 2) (by kernel_rfl) rfl (by simp [solve_at, h1, h2]; exact rfl) rfl rfl rfl rfl (by simp; exact rfl) (kt := 82) (et := 84) (by kernel_rfl) (by simp [Try.f16]) (by simp [Try.f16]) rfl rfl rfl rfl rfl rfl (by simp) (by simp) (by kernel_rfl) rfl rfl rfl rfl
        (fun p done st => ∃ G, st = ⟨[(5, .int .i64 (cntAt isRoot (solve t) done)), (15, .raw p)], [], 0, G⟩) (fun p => ⟨_, View.norm _ [5, 15] [] 0 1 (by simp), by simp, 1, by simp [cntAt]⟩) ?_ ?_)
      · rintro p done st i kk vv ⟨G1, rfl⟩ hi hid hnd hlt
        obtain ⟨⟨n, e⟩, hne, hkv⟩ : ∃ q, (solve t)[i]? = some q ∧ (nodA q.1, edgeA q.2) = (kk, vv) := by simpa using hi
        obtain ⟨rfl, rfl⟩ := Prod.mk.inj hkv
        refine ⟨_, by simp; exact rfl, ?_⟩
        refine .step X8.sound (by kernel_rfl) (by simp [eq_nn]; exact rfl) ?_ -- region 8
        have hlen : cntAt isRoot (solve t) done < 9223372036854775807 := by
          have h3 := cntAt_le isRoot (solve t) done
          have h4 := nodup_lt (solve t).length done hnd (by simpa using hlt)
          have h5 := solve_len t h1.2 h2.2
          omega
        refine .cond_split (by simp; exact rfl) (fun hc => ?_) (fun hc => ?_) -- t24
        · refine .region X8.sound (by kernel_rfl) (by simp; exact rfl) ?_ -- region 9
          refine ⟨_, View.norm _ [5, 15] [] 0 (G1 + 2) (by simp), by simp, G1 + 2, ?_⟩
          rw [cntAt_cons _ _ _ _ _ hne, if_pos (show isRoot (n, e) = true from hc)]
          simp; exact wrap64 (by omega) (by omega)
        · refine .skip ⟨_, View.norm _ [5, 15] [] 0 (G1 + 2) (by simp), by simp, G1 + 2, ?_⟩
          rw [cntAt_cons _ _ _ _ _ hne, if_neg (by show ¬ isRoot (n, e) = true; rw [show isRoot (n, e) = false from hc]; simp)]
          simp
      · rintro p done st ⟨G1, rfl⟩ hnd hall
        rw [← cntAt_all isRoot (solve t) done hnd (by simpa using hall)]
        refine .step X8.sound (by kernel_rfl) (by simp; exact rfl) ?_ -- region 10
        exact .ret ⟨.inr rfl, ends_free (l := [.tmp 2, .tmp 3]) rfl (rs := [_, _]) (by simp) (fun k => by simp) (by simp)⟩
  · exact (rd_fail h).elim

end Go.Proofs.Ytlidakhdcnkabaa

namespace Go.Proofs.Ytlidakhdcnkabaa
open Go.AI
set_option linter.unusedSimpArgs false

/-- The first n of a list turned around. -/
def revN (n : Nat) (l : List Int) : List Int := (l.take n).reverse ++ l.drop n

def revS : FSpec := fun xs nx G => match xs with
  | [.sl b g lo n] => row? b g fun sz es wr => ofOpt (asInts es) fun l => if sz = 1 ∧ wr = true ∧ lo = 0 ∧ n ≤ l.length then .ret ⟨.tup [], [(b, some (.row 1 (ints (revN n l)) g true))], nx, G⟩ else .fail
  | _ => .fail

/-- Turned around from both ends up to i. -/
def RevTo (l : List Int) (n i : Nat) (l' : List Int) : Prop := l'.length = l.length ∧ ∀ k, k < l.length → l'.getD k 0 = if k < i ∨ (n ≤ k + i ∧ k < n) then l.getD (n - 1 - k) 0 else l.getD k 0

theorem getD_ext {l l' : List Int} (h : l'.length = l.length) (hk : ∀ k, k < l.length → l'.getD k 0 = l.getD k 0) : l' = l := by
  refine List.ext_getElem? fun k => ?_
  by_cases hlt : k < l.length
  · have := hk k hlt
    rw [List.getD_eq_getElem?_getD, List.getD_eq_getElem?_getD, List.getElem?_eq_getElem hlt, List.getElem?_eq_getElem (by omega)] at this
    rw [List.getElem?_eq_getElem hlt, List.getElem?_eq_getElem (by omega)]
    simpa using this
  · rw [List.getElem?_eq_none (by omega), List.getElem?_eq_none (by omega)]

theorem revTo_end {l l' : List Int} {n i : Nat} (hn : n ≤ l.length) (h : RevTo l n i l') (hi : n ≤ 2 * i + 1) (hi2 : i ≤ n) : l' = revN n l := by
  refine getD_ext (by simp [revN, h.1]; omega) fun k hk => ?_
  have hlen : (revN n l).length = l.length := by simp [revN]; omega
  rw [h.2 k (by omega)]
  have hr : (revN n l).getD k 0 = if k < n then l.getD (n - 1 - k) 0 else l.getD k 0 := by
    simp only [revN, List.getD_eq_getElem?_getD]
    split
    · rename_i hk'
      rw [List.getElem?_append_left (by simp; omega), List.getElem?_reverse (by simp; omega)]
      simp only [List.length_take, Nat.min_eq_left hn, List.getElem?_take]
      rw [if_pos (by omega)]
    · rename_i hk'
      rw [List.getElem?_append_right (by simp; omega)]
      simp only [List.length_reverse, List.length_take, Nat.min_eq_left hn, List.getElem?_drop]
      congr 2
      omega
  rw [hr]
  by_cases h1 : k < i ∨ (n ≤ k + i ∧ k < n)
  · rw [if_pos h1]
    by_cases h2 : k < n
    · rw [if_pos h2]
    · rcases h1 with h1 | h1
      · omega
      · omega
  · rw [if_neg h1]
    by_cases h2 : k < n
    · rw [if_pos h2]
      have : n - 1 - k = k := by omega
      rw [this]
    · rw [if_neg h2]

theorem revTo_step {l l' : List Int} {n i j : Nat} (hn : n ≤ l.length) (h : RevTo l n i l') (hj : j + i + 1 = n) (hij : i < j) : RevTo l n (i + 1) ((l'.set i (l'.getD j 0)).set j (l'.getD i 0)) := by
  refine ⟨by simp [h.1], fun k hk => ?_⟩
  have h1 := h.2 i (by omega)
  have h2 := h.2 j (by omega)
  rw [if_neg (by omega)] at h1 h2
  have h3 := h.2 k hk
  have hg : ∀ (l : List Int) (i k : Nat) (x : Int), i < l.length → (l.set i x).getD k 0 = if i = k then x else l.getD k 0 := by
    intro l i k x hi
    simp only [List.getD_eq_getElem?_getD, List.getElem?_set]
    split
    · simp [hi]
    · rfl
  have hl := h.1
  rw [hg _ _ _ _ (by simp; omega), hg _ _ _ _ (by omega), h1, h2]
  by_cases e1 : j = k
  · subst e1
    have e3 : n - 1 - j = i := by omega
    rw [if_pos rfl, if_pos (by omega), e3]
  · rw [if_neg e1]
    by_cases e2 : i = k
    · subst e2
      have e3 : n - 1 - i = j := by omega
      rw [if_pos rfl, if_pos (by omega), e3]
    · rw [if_neg e2, h3]
      by_cases c : k < i ∨ (n ≤ k + i ∧ k < n)
      · rw [if_pos c, if_pos (by omega)]
      · rw [if_neg c, if_neg (by omega)]

theorem getD_of {l : List Int} {i : Nat} (h : i < l.length) : l[i]? = some (l.getD i 0) := by
  rw [List.getD_eq_getElem?_getD, List.getElem?_eq_getElem h]; rfl

theorem reverse_sound : FSound Try.prog 54 revS := by
  refine fsound_of Try.func54 (by kernel_rfl) rfl _ fun xs nx G d hp h => ?_
  unfold revS at h
  split at h
  · rename_i b g lo n
    replace h := rd_row h; obtain ⟨sz, es, wr, k0, h⟩ := h
    replace h := rd_opt h; obtain ⟨l, hl, h⟩ := h
    have := asInts_some hl; subst this
    split at h
    · rename_i hc
      obtain ⟨rfl, rfl, rfl, hn⟩ := hc
      simp only [Rd.run, Option.some.injEq] at h
      subst h
      have hlent : ∀ b' g', lentH hp [b] b' g' ↔ (b' = b ∧ g' = g) := by
        intro b' g'
        constructor
        · rintro ⟨hb, x, hx, rfl⟩
          simp only [List.mem_singleton] at hb
          subst hb
          rw [k0] at hx; cases hx; simp [AObj.gen]
        · rintro ⟨rfl, rfl⟩
          exact ⟨by simp, _, k0, rfl⟩
      have hobj : ∀ l : List Int, ObjIn (lentH hp [b]) (.row 1 (ints l) g true) := fun l e he a ha => by
        obtain ⟨x, _, rfl⟩ := List.mem_map.1 he
        simp only [List.mem_singleton] at ha
        subst ha; exact .int _ _
      refine ⟨[b], ⟨argT 0 [.sl b g 0 n], [(b, some (.row 1 (ints l) g true))], b + 1, g + 1⟩, rfl, by simp [Try.f54], ?_, ?_, ?_, ?_, ?_⟩
      · intro a ha
        simp only [List.mem_singleton] at ha
        subst ha
        simp [hlent]
      · intro b' hb x hx
        simp only [List.mem_singleton] at hb
        subst hb
        rw [k0] at hx; cases hx
        exact hobj l
      · funext c
        by_cases hb : c = b
        · subst hb; simp [hget, k0]
        · simp [hget, hb, Ne.symm hb]
      · intro b' g' h
        rw [hlent] at h
        simp only []; omega
      · refine .len_sl 0 (sz := 1) (b := b) (g := g) (lo := 0) (n := n) (es := ints l) (wr := true) (by simp) (by simp) fun hlr => ?_
        have hb : n < 9223372036854775808 := by have := hlr.1; simp [maxLen] at this; omega
        have hw0 : IntKind.i64.wrap ((n : Int) - 1) = (n : Int) - 1 := wrap64 (by omega) (by omega)
        refine .step X0.sound (by kernel_rfl) (by simp [hw0]; exact rfl) (.block ?_) -- region 0
        refine .loopV (fun k st => ∃ (i : Nat) (l' : List Int), 2 * i ≤ n ∧ k = n - i ∧ RevTo l n i l' ∧ st = ⟨[(0, .sl b g 0 n), (2, .int .i64 i), (3, .int .i64 ((n : Int) - 1 - i))], [(b, some (.row 1 (ints l') g true))], b + 1, g + 1⟩) ?_ (View.norm _ [0, 2, 3] [b] (b + 1) (g + 1) (by simp)) ⟨0, l, by omega, rfl, ⟨rfl, fun k hk => by rw [if_neg (by omega)]⟩, by simp⟩
        rintro k st ⟨i, l', hi, rfl, hrev, rfl⟩
        have hll := hrev.1
        refine .seq (.step X0.sound (by kernel_rfl) (by simp; exact rfl) ?_) -- region 1
        refine .cond_split (by simp; exact rfl) (fun hc => ?_) (fun hc => ?_) -- t9
        · have hc' : (i : Int) < (n : Int) - 1 - i := by simpa using hc
          obtain ⟨j, hj⟩ : ∃ j : Nat, (n : Int) - 1 - i = j := ⟨n - 1 - i, by omega⟩
          rw [hj]
          have q1 : (i : Int) < n := by omega
          have q2 : (j : Int) < n := by omega
          obtain ⟨x, hx⟩ : ∃ x, x = l'.getD i 0 := ⟨_, rfl⟩
          obtain ⟨y, hy⟩ : ∃ y, y = l'.getD j 0 := ⟨_, rfl⟩
          have hst := revTo_step hn hrev (j := j) (by omega) (by omega)
          have q3 := getD_of (l := l') (i := i) (by omega)
          have q4 := getD_of (l := l') (i := j) (by omega)
          rw [← hx] at q3 hst
          rw [← hy] at q4 hst
          clear hx hy
          have q5 : i < n := by omega
          have q6 : j < n := by omega
          have q7 : i ≠ j := by omega
          refine .skip (.seq (.block ?_))
          refine .drawn mixed X0.sound (by kernel_rfl) (by kernel_rfl) (runD_tr (by simp [q3, q4, q5, q6, List.getElem?_set, q7]; exact ⟨rfl, rfl⟩)) (looseB_spec (by kernel_rfl)) ?_ -- region 3
          have hw1 : IntKind.i64.wrap ((i : Int) + 1) = (i : Int) + 1 := wrap64 (by omega) (by omega)
          have hw2 : IntKind.i64.wrap ((j : Int) - 1) = (j : Int) - 1 := wrap64 (by omega) (by omega)
          refine .region X0.sound (by kernel_rfl) (by simp [hw1, hw2]; exact rfl) ?_ -- region 2
          refine ⟨_, _, View.norm _ [0, 2, 3] [b] (b + 1) (g + 1) (by simp), ?_, i + 1, _, by omega, rfl, hst, ?_⟩
          · omega
          · simp [List.map_set]
            omega
        · have hc' : ¬ (i : Int) < (n : Int) - 1 - i := by simpa using hc
          have := revTo_end hn hrev (by omega) (by omega)
          subst this
          refine .exit ⟨.inl rfl, ⟨[], [], [], [], [], [], rfl, rfl, .nil _ _, .nil, ?_, rfl, rfl, rfl, ?_⟩⟩
          · intro b' hb
            simp only [List.mem_singleton] at hb
            subst hb
            exact ⟨by simp [outB], by simp, _, by simp [hupd, hget]; rfl, ⟨b', by simp [hlent, AObj.gen]⟩, hobj _⟩
          · funext c
            by_cases hb : c = b
            · subst hb; simp [hupd, setAt, hget]
            · simp [hupd, setAt, hb]
    · exact (rd_fail h).elim
  · exact (rd_fail h).elim

end Go.Proofs.Ytlidakhdcnkabaa

namespace Go.Proofs.Ytlidakhdcnkabaa
open Go.AI
set_option linter.unusedSimpArgs false

@[simp] theorem ti106 : tiOf Try.prog 106 = some ⟨1, false, .il [] true, 24, .slice 30⟩ := by kernel_rfl

def growIS : FSpec := fun xs nx G => match xs with
  | [.il [] true, .int .i64 n] => if 0 ≤ n ∧ n ≤ 1000000 then .ret ⟨.sl nx G 0 0, [(nx, some (.row 1 (List.replicate n.toNat [AVal.int .i64 0]) G true))], nx + 1, G + 1⟩ else .fail
  | _ => .fail

theorem growI_sound : FSound Try.prog 62 growIS := by
  refine fsound_pure Try.func62 (by kernel_rfl) rfl _ fun xs nx G d hp h => ?_
  unfold growIS at h
  split at h
  · rename_i n
    split at h
    · rename_i hc
      obtain ⟨h0, h1⟩ := hc
      simp only [Rd.run, Option.some.injEq] at h
      subst h
      refine ⟨by simp [Try.f62], all2 (by simp) (.int _ _), ?_⟩
      have hn0 : ¬ n < 0 := by omega
      refine .step X0.sound (by kernel_rfl) (by simp; exact rfl) ?_ -- region 0
      refine .seq (.step X0.sound (by kernel_rfl) (by simp [hn0]; exact rfl) ?_) -- region 1
      refine .cond (t := false) (by simp) (.skip ?_)
      have hw : IntKind.i64.wrap n = n := wrap64 (by omega) (by omega)
      have hw0 : IntKind.i64.wrap 0 = 0 := wrap64 (by omega) (by omega)
      refine .seq (.step X0.sound (by kernel_rfl) (by simp [hw0, hw]; exact rfl) ?_) -- region 3
      refine .step X0.sound (by kernel_rfl) (by simp; exact rfl) ?_ -- region 4
      have hrow : ∀ e ∈ List.replicate n.toNat [AVal.int .i64 0], ∀ a ∈ e, Free a := fun e he a ha => by
        rw [List.eq_of_mem_replicate he] at ha
        simp only [List.mem_singleton] at ha; subst ha; exact .int _ _
      refine .cond_split (by simp; exact rfl) (fun hc => ?_) (fun hc => ?_) -- t16
      · have hok : okEs 1 (List.replicate n.toNat [AVal.int .i64 0]) = true := by simp [okEs, AVal.sc]
        have hroom : n.toNat * 8 ≤ room := by simp [room]; omega
        have hpos : 0 < n := by simpa using hc
        have hmx : (0 : Int) ≤ max n 0 := by omega
        have hfl : flatEs (List.replicate n.toNat [AVal.int .i64 0]) = true := by simp [flatEs, AVal.flat]
        refine .region X0.sound (by kernel_rfl) (by simp [appendZerosR, h0, appR, hok, hroom, hmx]; exact rfl) ?_ -- region 5
        refine .step X0.sound (by kernel_rfl) (by simp; exact rfl) ?_ -- region 6
        refine .ret ⟨.inr rfl, [.sl 0 0 0 0], [.sl 0 0 0 0], [], [.sl nx G 0 0], [(nx, some (.row 1 (List.replicate n.toNat [AVal.int .i64 0]) G true))], [0], ?_, ?_, .row (b := 0) (by simp [hupd]) hrow (.nil _ _), by simp, rfl⟩
        · rw [show Try.f62.results.toList = [.tmp 4] from rfl]; simp
        · simp [hfl]
      · have hz : n.toNat = 0 := by
          have : ¬ 0 < n := by simpa using hc
          omega
        rw [hz]
        refine .skip ?_
        refine .step X0.sound (by kernel_rfl) (by simp; exact rfl) ?_ -- region 6
        refine .view (View.virt _ 4 0 1 true (by simp)) ?_
        refine .ret ⟨.inr rfl, [.sl 0 0 0 0], [.sl 0 0 0 0], [], [.sl nx G 0 0], [(nx, some (.row 1 [] G true))], [0], ?_, ?_, .row (b := 0) (by simp [hupd]) (by simp) (.nil _ _), by simp, rfl⟩
        · rw [show Try.f62.results.toList = [.tmp 4] from rfl]; simp
        · simp
    · exact (rd_fail h).elim
  · exact (rd_fail h).elim

abbrev rowsI (ls : List (List Int × Bool)) : List (List AVal) := ls.map fun l => [.il (ints l.1) l.2]

def asRowI : List AVal → Option (List Int × Bool)
  | [.il es ex] => (asInts es).map fun l => (l, ex)
  | _ => none

def asRowsI (es : List (List AVal)) : Option (List (List Int × Bool)) := es.mapM asRowI

theorem asRowsI_some {es : List (List AVal)} {ls : List (List Int × Bool)} (h : asRowsI es = some ls) : es = rowsI ls := by
  induction es generalizing ls with
  | nil => simp [asRowsI] at h; subst h; rfl
  | cons e es ih =>
    simp only [asRowsI, List.mapM_cons, Option.bind_eq_bind, Option.bind_eq_some_iff, Option.pure_def, Option.some.injEq] at h
    obtain ⟨x, hx, ys, hys, rfl⟩ := h
    rw [ih hys]
    unfold asRowI at hx
    split at hx
    · rw [Option.map_eq_some_iff] at hx
      obtain ⟨l, hl, rfl⟩ := hx
      rw [asInts_some hl]
      rfl
    · cases hx

theorem asRowsI_rows (ls : List (List Int × Bool)) : asRowsI (rowsI ls) = some ls := by
  induction ls with
  | nil => rfl
  | cons x ls ih =>
    simp only [asRowsI, rowsI, List.map_cons, List.mapM_cons] at ih ⊢
    rw [ih]
    simp [asRowI]

/-- All in a row. -/
def flatI (ls : List (List Int × Bool)) : List Int := (ls.map fun l => l.1).flatten

theorem flatI_snoc (ls : List (List Int × Bool)) (x : List Int × Bool) : flatI (ls ++ [x]) = flatI ls ++ x.1 := by simp [flatI]

theorem flatI_take_le (ls : List (List Int × Bool)) (j : Nat) : (flatI (ls.take j)).length ≤ (flatI ls).length := by
  have h : flatI ls = flatI (ls.take j) ++ flatI (ls.drop j) := by
    simp only [flatI, ← List.flatten_append, ← List.map_append, List.take_append_drop]
  rw [h, List.length_append]
  omega

def concatIS : FSpec := fun xs nx G => match xs with
  | [.il es _] => ofOpt (asRowsI es) fun ls => if (flatI ls).length ≤ 100000 then valR nx G (.il (ints (flatI ls)) false) else .fail
  | _ => .fail

def X10I : Ext := .of [(62, growIS)] []
theorem X10I.sound : X10I.Sound Try.prog := Ext.of_sound ⟨growI_sound, trivial⟩
@[simp] theorem X10I.raw_ (f : FuncId) : X10I.raw f = false := rfl
@[simp] theorem X10I.s : X10I.spec 62 = growIS := rfl

theorem concatI_sound : FSound Try.prog 55 concatIS := by
  refine fsound_pure Try.func55 (by kernel_rfl) rfl _ fun xs nx G d hp h => ?_
  unfold concatIS at h
  split at h
  · rename_i es ex
    replace h := rd_opt h; obtain ⟨ls, hls, h⟩ := h
    have := asRowsI_some hls; subst this
    split at h
    · rename_i hc
      have hd := rd_val h
      subst hd
      have hfree : Free (.il (rowsI ls) ex) := .il _ _ (free_rows _ _ fun x a ha => by simp only [List.mem_singleton] at ha; subst ha; exact free_ints _ _)
      refine ⟨by simp [Try.f55], all1 hfree, ?_⟩
      refine .len 0 (es := rowsI ls) (ex := ex) (by simp) fun hlr => ?_
      have hb : ls.length < 9223372036854775808 := by simp [maxLen] at hlr; omega
      have hok : okEs 1 (rowsI ls) = true := by simp [okEs, AVal.sc]
      refine .step X10I.sound (by kernel_rfl) (by simp; exact rfl) ?_ -- region 0
      refine .step X10I.sound (by kernel_rfl) (by simp; exact rfl) ?_ -- region 1
      refine .seq (.step X10I.sound (by kernel_rfl) (by simp; exact rfl) (.block ?_)) -- region 2
      refine .loopV (fun k st => ∃ j : Nat, j ≤ ls.length ∧ k = ls.length - j ∧ st = ⟨[(0, .il (rowsI ls) ex), (3, .int .i64 (flatI (ls.take j)).length), (9, .il (rowsI ls) ex), (10, .int .i64 ls.length), (11, .int .i64 j)], [], 0, 0⟩) ?_ (View.norm _ [0, 3, 9, 10, 11] [] 0 0 (by simp)) ⟨0, by omega, rfl, by simp [flatI]⟩
      rintro k st ⟨j, hj, rfl, rfl⟩
      refine .step X10I.sound (by kernel_rfl) (by simp; exact rfl) ?_ -- region 3
      refine .seq (.cond_split (by simp; exact rfl) (fun hc => ?_) (fun hc => ?_)) -- t12
      · have hj' : j < ls.length := by simpa using hc
        have hle := flatI_take_le ls (j + 1)
        have hsn : flatI (ls.take (j + 1)) = flatI (ls.take j) ++ ls[j].1 := by rw [List.take_succ_eq_append_getElem hj', flatI_snoc]
        have hlen : (flatI (ls.take (j + 1))).length = (flatI (ls.take j)).length + ls[j].1.length := by rw [hsn, List.length_append]
        have hw1 : IntKind.i64.wrap (((flatI (ls.take j)).length : Int) + ls[j].1.length) = (flatI (ls.take (j + 1))).length := by rw [hlen]; exact (wrap64 (by omega) (by omega)).trans (by omega)
        have hw2 : IntKind.i64.wrap ((j : Int) + 1) = (j : Int) + 1 := wrap64 (by omega) (by omega)
        have hneg : ¬ ((flatI (ls.take (j + 1))).length : Int) < 0 := by omega
        refine .skip (.seq (.block ?_))
        refine .step X10I.sound (by kernel_rfl) (by simp [hj', hok]; exact rfl) ?_ -- region 4
        refine .step X10I.sound (by kernel_rfl) (by simp [hw1]; exact rfl) ?_ -- region 5
        refine .step X10I.sound (by kernel_rfl) (by simp [hneg]; exact rfl) ?_ -- region 6
        refine .cond (t := false) (by simp) (.skip ?_)
        refine .region X10I.sound (by kernel_rfl) (by simp; exact rfl) ?_ -- region 8
        refine ⟨_, _, View.norm _ [0, 3, 9, 10, 11] [] 0 0 (by simp), ?_, j + 1, by omega, rfl, ?_⟩
        · omega
        · simp [hw2]
      · have : j = ls.length := by simp at hc; omega
        subst this
        have hfull : flatI (ls.take ls.length) = flatI ls := by rw [List.take_length]
        rw [hfull]
        have hg1 : (0 : Int) ≤ (flatI ls).length ∧ ((flatI ls).length : Int) ≤ 1000000 := by omega
        refine .exit ?_
        refine .step X10I.sound (by kernel_rfl) (by simp [growIS, hg1]; exact rfl) ?_ -- region 9
        refine .seq (.step X10I.sound (by kernel_rfl) (by simp; exact rfl) (.block ?_)) -- region 10
        refine .loopV (fun k st => ∃ (j : Nat) (es : List (List AVal)) (g G : Nat), j ≤ ls.length ∧ k = ls.length - j ∧ es.take (flatI (ls.take j)).length = ints (flatI (ls.take j)) ∧ (flatI (ls.take j)).length ≤ es.length ∧ flatEs es = true ∧
          st = ⟨[(6, .sl 0 g 0 (flatI (ls.take j)).length), (25, .il (rowsI ls) ex), (26, .int .i64 ls.length), (27, .int .i64 j)], [(0, some (.row 1 es g true))], 1, G⟩) ?_ (View.norm _ [6, 25, 26, 27] [0] 1 1 (by simp)) ⟨0, List.replicate (flatI ls).length [AVal.int .i64 0], 0, 1, by omega, rfl, by simp [flatI], by simp [flatI], by simp [flatEs, AVal.flat], by simp [flatI]⟩
        rintro k st ⟨j, es, g, G1, hj, rfl, htake, hle, hflat, rfl⟩
        refine .step X10I.sound (by kernel_rfl) (by simp; exact rfl) ?_ -- region 11
        refine .seq (.cond_split (by simp; exact rfl) (fun hc => ?_) (fun hc => ?_)) -- t28
        · have hj' : j < ls.length := by simpa using hc
          have hle1 := flatI_take_le ls (j + 1)
          have hsn : flatI (ls.take (j + 1)) = flatI (ls.take j) ++ ls[j].1 := by rw [List.take_succ_eq_append_getElem hj', flatI_snoc]
          have hlen : (flatI (ls.take (j + 1))).length = (flatI (ls.take j)).length + ls[j].1.length := by rw [hsn, List.length_append]
          have hroom : ((flatI (ls.take j)).length + ls[j].1.length) * 8 ≤ room := by simp [room]; omega
          have hw2 : IntKind.i64.wrap ((j : Int) + 1) = (j : Int) + 1 := wrap64 (by omega) (by omega)
          refine .skip (.seq (.block ?_))
          refine .step X10I.sound (by kernel_rfl) (by simp [hj', hok]; exact rfl) ?_ -- region 12
          refine .region X10I.sound (by kernel_rfl) (by simp [elems, appR, hroom, hle]; exact rfl) ?_ -- region 13
          refine .region X10I.sound (by kernel_rfl) (by simp; exact rfl) ?_ -- region 14
          refine ⟨_, _, View.norm _ [6, 25, 26, 27] [0] 1 (G1 + 2) (by simp), ?_, j + 1, ints (flatI (ls.take (j + 1))), G1, G1 + 2, by omega, rfl, List.take_of_length_le (by simp), by simp, by simp, ?_⟩
          · omega
          · simp [hw2, hlen]
            rw [htake, hsn]; simp
        · have : j = ls.length := by simp at hc; omega
          subst this
          rw [hfull] at htake hle ⊢
          refine .exit (.step X10I.sound (by kernel_rfl) (by simp; exact rfl) ?_) -- region 15
          refine .view (View.fzT _ 2 (by simp [hflat]; exact ⟨rfl, rfl⟩)) ?_
          exact .ret ⟨.inr rfl, ends_free (l := [.tmp 2]) rfl (rs := [.il (ints (flatI ls)) false]) (by simp [htake]) (fun k => by simp) (all1 (free_ints _ _))⟩
    · exact (rd_fail h).elim
  · exact (rd_fail h).elim

@[simp] theorem ti102 : tiOf Try.prog 102 = some ⟨1, false, .il [] true, 24, .slice 22⟩ := by kernel_rfl

def growPS : FSpec := fun xs nx G => match xs with
  | [.il [] true, .int .i64 n] => if 0 ≤ n ∧ n ≤ 1000000 then .ret ⟨.sl nx G 0 0, [(nx, some (.row 2 (List.replicate n.toNat [AVal.int .i64 0, AVal.int .i64 0]) G true))], nx + 1, G + 1⟩ else .fail
  | _ => .fail

theorem growP_sound : FSound Try.prog 59 growPS := by
  refine fsound_pure Try.func59 (by kernel_rfl) rfl _ fun xs nx G d hp h => ?_
  unfold growPS at h
  split at h
  · rename_i n
    split at h
    · rename_i hc
      obtain ⟨h0, h1⟩ := hc
      simp only [Rd.run, Option.some.injEq] at h
      subst h
      refine ⟨by simp [Try.f59], all2 (by simp) (.int _ _), ?_⟩
      have hn0 : ¬ n < 0 := by omega
      refine .step X0.sound (by kernel_rfl) (by simp; exact rfl) ?_ -- region 0
      refine .seq (.step X0.sound (by kernel_rfl) (by simp [hn0]; exact rfl) ?_) -- region 1
      refine .cond (t := false) (by simp) (.skip ?_)
      have hw : IntKind.i64.wrap n = n := wrap64 (by omega) (by omega)
      have hw0 : IntKind.i64.wrap 0 = 0 := wrap64 (by omega) (by omega)
      refine .seq (.step X0.sound (by kernel_rfl) (by simp [hw0, hw]; exact rfl) ?_) -- region 3
      refine .step X0.sound (by kernel_rfl) (by simp; exact rfl) ?_ -- region 4
      have hrow : ∀ e ∈ List.replicate n.toNat [AVal.int .i64 0, AVal.int .i64 0], ∀ a ∈ e, Free a := fun e he a ha => by
        rw [List.eq_of_mem_replicate he] at ha
        simp at ha; subst ha; exact .int _ _
      refine .cond_split (by simp; exact rfl) (fun hc => ?_) (fun hc => ?_) -- t16
      · have hok : okEs 2 (List.replicate n.toNat [AVal.int .i64 0, AVal.int .i64 0]) = true := by simp [okEs, AVal.sc]
        have hroom : n.toNat * 16 ≤ room := by simp [room]; omega
        have hpos : 0 < n := by simpa using hc
        have hmx : (0 : Int) ≤ max n 0 := by omega
        have hfl : flatEs (List.replicate n.toNat [AVal.int .i64 0, AVal.int .i64 0]) = true := by simp [flatEs, AVal.flat]
        refine .region X0.sound (by kernel_rfl) (by simp [appendZerosR, h0, appR, hok, hroom, hmx]; exact rfl) ?_ -- region 5
        refine .step X0.sound (by kernel_rfl) (by simp; exact rfl) ?_ -- region 6
        refine .ret ⟨.inr rfl, [.sl 0 0 0 0], [.sl 0 0 0 0], [], [.sl nx G 0 0], [(nx, some (.row 2 (List.replicate n.toNat [AVal.int .i64 0, AVal.int .i64 0]) G true))], [0], ?_, ?_, .row (b := 0) (by simp [hupd]) hrow (.nil _ _), by simp, rfl⟩
        · rw [show Try.f59.results.toList = [.tmp 4] from rfl]; simp
        · simp [hfl]
      · have hz : n.toNat = 0 := by
          have : ¬ 0 < n := by simpa using hc
          omega
        rw [hz]
        refine .skip ?_
        refine .step X0.sound (by kernel_rfl) (by simp; exact rfl) ?_ -- region 6
        refine .view (View.virt _ 4 0 2 true (by simp)) ?_
        refine .ret ⟨.inr rfl, [.sl 0 0 0 0], [.sl 0 0 0 0], [], [.sl nx G 0 0], [(nx, some (.row 2 [] G true))], [0], ?_, ?_, .row (b := 0) (by simp [hupd]) (by simp) (.nil _ _), by simp, rfl⟩
        · rw [show Try.f59.results.toList = [.tmp 4] from rfl]; simp
        · simp
    · exact (rd_fail h).elim
  · exact (rd_fail h).elim

abbrev rowsP (ls : List (List (Int × Int) × Bool)) : List (List AVal) := ls.map fun l => [.il (pairs l.1) l.2]

def asRowP : List AVal → Option (List (Int × Int) × Bool)
  | [.il es ex] => (asPairs es).map fun l => (l, ex)
  | _ => none

def asRowsP (es : List (List AVal)) : Option (List (List (Int × Int) × Bool)) := es.mapM asRowP

theorem asRowsP_some {es : List (List AVal)} {ls : List (List (Int × Int) × Bool)} (h : asRowsP es = some ls) : es = rowsP ls := by
  induction es generalizing ls with
  | nil => simp [asRowsP] at h; subst h; rfl
  | cons e es ih =>
    simp only [asRowsP, List.mapM_cons, Option.bind_eq_bind, Option.bind_eq_some_iff, Option.pure_def, Option.some.injEq] at h
    obtain ⟨x, hx, ys, hys, rfl⟩ := h
    rw [ih hys]
    unfold asRowP at hx
    split at hx
    · rw [Option.map_eq_some_iff] at hx
      obtain ⟨l, hl, rfl⟩ := hx
      rw [asPairs_some hl]
      rfl
    · cases hx

theorem asRowsP_rows (ls : List (List (Int × Int) × Bool)) : asRowsP (rowsP ls) = some ls := by
  induction ls with
  | nil => rfl
  | cons x ls ih =>
    simp only [asRowsP, rowsP, List.map_cons, List.mapM_cons] at ih ⊢
    rw [ih]
    simp [asRowP]

/-- All in a row. -/
def flatP (ls : List (List (Int × Int) × Bool)) : List (Int × Int) := (ls.map fun l => l.1).flatten

theorem flatP_snoc (ls : List (List (Int × Int) × Bool)) (x : List (Int × Int) × Bool) : flatP (ls ++ [x]) = flatP ls ++ x.1 := by simp [flatP]

theorem flatP_take_le (ls : List (List (Int × Int) × Bool)) (j : Nat) : (flatP (ls.take j)).length ≤ (flatP ls).length := by
  have h : flatP ls = flatP (ls.take j) ++ flatP (ls.drop j) := by
    simp only [flatP, ← List.flatten_append, ← List.map_append, List.take_append_drop]
  rw [h, List.length_append]
  omega

def concatPS : FSpec := fun xs nx G => match xs with
  | [.il es _] => ofOpt (asRowsP es) fun ls => if (flatP ls).length ≤ 100000 then valR nx G (.il (pairs (flatP ls)) false) else .fail
  | _ => .fail

def X10P : Ext := .of [(59, growPS)] []
theorem X10P.sound : X10P.Sound Try.prog := Ext.of_sound ⟨growP_sound, trivial⟩
@[simp] theorem X10P.raw_ (f : FuncId) : X10P.raw f = false := rfl
@[simp] theorem X10P.s : X10P.spec 59 = growPS := rfl

theorem concatP_sound : FSound Try.prog 50 concatPS := by
  refine fsound_pure Try.func50 (by kernel_rfl) rfl _ fun xs nx G d hp h => ?_
  unfold concatPS at h
  split at h
  · rename_i es ex
    replace h := rd_opt h; obtain ⟨ls, hls, h⟩ := h
    have := asRowsP_some hls; subst this
    split at h
    · rename_i hc
      have hd := rd_val h
      subst hd
      have hfree : Free (.il (rowsP ls) ex) := .il _ _ (free_rows _ _ fun x a ha => by simp only [List.mem_singleton] at ha; subst ha; exact free_pairs _ _)
      refine ⟨by simp [Try.f50], all1 hfree, ?_⟩
      refine .len 0 (es := rowsP ls) (ex := ex) (by simp) fun hlr => ?_
      have hb : ls.length < 9223372036854775808 := by simp [maxLen] at hlr; omega
      have hok : okEs 1 (rowsP ls) = true := by simp [okEs, AVal.sc]
      refine .step X10P.sound (by kernel_rfl) (by simp; exact rfl) ?_ -- region 0
      refine .step X10P.sound (by kernel_rfl) (by simp; exact rfl) ?_ -- region 1
      refine .seq (.step X10P.sound (by kernel_rfl) (by simp; exact rfl) (.block ?_)) -- region 2
      refine .loopV (fun k st => ∃ j : Nat, j ≤ ls.length ∧ k = ls.length - j ∧ st = ⟨[(0, .il (rowsP ls) ex), (3, .int .i64 (flatP (ls.take j)).length), (9, .il (rowsP ls) ex), (10, .int .i64 ls.length), (11, .int .i64 j)], [], 0, 0⟩) ?_ (View.norm _ [0, 3, 9, 10, 11] [] 0 0 (by simp)) ⟨0, by omega, rfl, by simp [flatP]⟩
      rintro k st ⟨j, hj, rfl, rfl⟩
      refine .step X10P.sound (by kernel_rfl) (by simp; exact rfl) ?_ -- region 3
      refine .seq (.cond_split (by simp; exact rfl) (fun hc => ?_) (fun hc => ?_)) -- t12
      · have hj' : j < ls.length := by simpa using hc
        have hle := flatP_take_le ls (j + 1)
        have hsn : flatP (ls.take (j + 1)) = flatP (ls.take j) ++ ls[j].1 := by rw [List.take_succ_eq_append_getElem hj', flatP_snoc]
        have hlen : (flatP (ls.take (j + 1))).length = (flatP (ls.take j)).length + ls[j].1.length := by rw [hsn, List.length_append]
        have hw1 : IntKind.i64.wrap (((flatP (ls.take j)).length : Int) + ls[j].1.length) = (flatP (ls.take (j + 1))).length := by rw [hlen]; exact (wrap64 (by omega) (by omega)).trans (by omega)
        have hw2 : IntKind.i64.wrap ((j : Int) + 1) = (j : Int) + 1 := wrap64 (by omega) (by omega)
        have hneg : ¬ ((flatP (ls.take (j + 1))).length : Int) < 0 := by omega
        refine .skip (.seq (.block ?_))
        refine .step X10P.sound (by kernel_rfl) (by simp [hj', hok]; exact rfl) ?_ -- region 4
        refine .step X10P.sound (by kernel_rfl) (by simp [hw1]; exact rfl) ?_ -- region 5
        refine .step X10P.sound (by kernel_rfl) (by simp [hneg]; exact rfl) ?_ -- region 6
        refine .cond (t := false) (by simp) (.skip ?_)
        refine .region X10P.sound (by kernel_rfl) (by simp; exact rfl) ?_ -- region 8
        refine ⟨_, _, View.norm _ [0, 3, 9, 10, 11] [] 0 0 (by simp), ?_, j + 1, by omega, rfl, ?_⟩
        · omega
        · simp [hw2]
      · have : j = ls.length := by simp at hc; omega
        subst this
        have hfull : flatP (ls.take ls.length) = flatP ls := by rw [List.take_length]
        rw [hfull]
        have hg1 : (0 : Int) ≤ (flatP ls).length ∧ ((flatP ls).length : Int) ≤ 1000000 := by omega
        refine .exit ?_
        refine .step X10P.sound (by kernel_rfl) (by simp [growPS, hg1]; exact rfl) ?_ -- region 9
        refine .seq (.step X10P.sound (by kernel_rfl) (by simp; exact rfl) (.block ?_)) -- region 10
        refine .loopV (fun k st => ∃ (j : Nat) (es : List (List AVal)) (g G : Nat), j ≤ ls.length ∧ k = ls.length - j ∧ es.take (flatP (ls.take j)).length = pairs (flatP (ls.take j)) ∧ (flatP (ls.take j)).length ≤ es.length ∧ flatEs es = true ∧
          st = ⟨[(6, .sl 0 g 0 (flatP (ls.take j)).length), (25, .il (rowsP ls) ex), (26, .int .i64 ls.length), (27, .int .i64 j)], [(0, some (.row 2 es g true))], 1, G⟩) ?_ (View.norm _ [6, 25, 26, 27] [0] 1 1 (by simp)) ⟨0, List.replicate (flatP ls).length [AVal.int .i64 0, AVal.int .i64 0], 0, 1, by omega, rfl, by simp [flatP], by simp [flatP], by simp [flatEs, AVal.flat], by simp [flatP]⟩
        rintro k st ⟨j, es, g, G1, hj, rfl, htake, hle, hflat, rfl⟩
        refine .step X10P.sound (by kernel_rfl) (by simp; exact rfl) ?_ -- region 11
        refine .seq (.cond_split (by simp; exact rfl) (fun hc => ?_) (fun hc => ?_)) -- t28
        · have hj' : j < ls.length := by simpa using hc
          have hle1 := flatP_take_le ls (j + 1)
          have hsn : flatP (ls.take (j + 1)) = flatP (ls.take j) ++ ls[j].1 := by rw [List.take_succ_eq_append_getElem hj', flatP_snoc]
          have hlen : (flatP (ls.take (j + 1))).length = (flatP (ls.take j)).length + ls[j].1.length := by rw [hsn, List.length_append]
          have hroom : ((flatP (ls.take j)).length + ls[j].1.length) * 16 ≤ room := by simp [room]; omega
          have hw2 : IntKind.i64.wrap ((j : Int) + 1) = (j : Int) + 1 := wrap64 (by omega) (by omega)
          refine .skip (.seq (.block ?_))
          refine .step X10P.sound (by kernel_rfl) (by simp [hj', hok]; exact rfl) ?_ -- region 12
          refine .region X10P.sound (by kernel_rfl) (by simp [elems, appR, hroom, hle]; exact rfl) ?_ -- region 13
          refine .region X10P.sound (by kernel_rfl) (by simp; exact rfl) ?_ -- region 14
          refine ⟨_, _, View.norm _ [6, 25, 26, 27] [0] 1 (G1 + 2) (by simp), ?_, j + 1, pairs (flatP (ls.take (j + 1))), G1, G1 + 2, by omega, rfl, List.take_of_length_le (by simp), by simp, by simp, ?_⟩
          · omega
          · simp [hw2, hlen]
            rw [htake, hsn]; simp
        · have : j = ls.length := by simp at hc; omega
          subst this
          rw [hfull] at htake hle ⊢
          refine .exit (.step X10P.sound (by kernel_rfl) (by simp; exact rfl) ?_) -- region 15
          refine .view (View.fzT _ 2 (by simp [hflat]; exact ⟨rfl, rfl⟩)) ?_
          exact .ret ⟨.inr rfl, ends_free (l := [.tmp 2]) rfl (rs := [.il (pairs (flatP ls)) false]) (by simp [htake]) (fun k => by simp) (all1 (free_pairs _ _))⟩
    · exact (rd_fail h).elim
  · exact (rd_fail h).elim

end Go.Proofs.Ytlidakhdcnkabaa
