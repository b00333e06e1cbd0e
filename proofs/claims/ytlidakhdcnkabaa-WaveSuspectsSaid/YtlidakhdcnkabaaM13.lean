/- A record is solved. Where a solution is contradicted. The first reading that contradicts a solution; Fits. wrong, solved, Fits. No condition. -/
import Derived.Test.YtlidakhdcnkabaaM12
import Derived.Test.YtlidakhdcnkabaaM07
namespace Go.Proofs.Ytlidakhdcnkabaa
open Go.AI
set_option linter.unusedSimpArgs false

theorem nodes_all (t : Tide) : nodesOf t.sun.toNat t.moon.toNat = (allNodes t).map nodA := by
  simp only [nodesOf, allNodes, List.map_append, List.map_map]; rfl

theorem upK_len {κ β : Type} [DecidableEq κ] (k : κ) (v : β) : ∀ s : List (κ × β), (upK k v s).length ≤ s.length + 1
  | [] => Nat.le_refl _
  | (x, u) :: s => by
    simp only [upK]
    split
    · simp
    · simpa using upK_len k v s

def first (l : List Node) : List (Node × Bool) := l.foldl (fun s n => upK n true s) []

theorem first_snoc (l : List Node) (n : Node) : first (l ++ [n]) = upK n true (first l) := by simp [first, List.foldl_append]

theorem first_len (l : List Node) : (first l).length ≤ l.length := by
  have : ∀ (l : List Node) (s : List (Node × Bool)), (l.foldl (fun s n => upK n true s) s).length ≤ s.length + l.length := by
    intro l
    induction l with
    | nil => intro s; simp
    | cons n l ih =>
      intro s
      have h1 := ih (upK n true s)
      have h2 := upK_len n true s
      simp only [List.foldl_cons, List.length_cons]
      omega
  simpa [first] using this l []

def solveS : FSpec := fun xs nx G => match xs with
  | [r] => ofOpt (asTide r) fun t => if (1 ≤ t.sun ∧ t.sun ≤ 30) ∧ 1 ≤ t.moon ∧ t.moon ≤ 30 then valR nx G (.im (kvs nodA edgeA (solve t))) else .fail
  | _ => .fail

def X5 : Ext := .of [(44, nodesS), (58, visitS 60)] [58]
theorem X5.sound : X5.Sound Try.prog := Ext.of_sound ⟨nodes_sound, visit_sound 60, trivial⟩
@[simp] theorem X5.raw58 : X5.raw 58 = true := rfl
@[simp] theorem X5.raw44 : X5.raw 44 = false := rfl
@[simp] theorem X5.s44 : X5.spec 44 = nodesS := rfl
@[simp] theorem X5.s58 : X5.spec 58 = visitS 60 := rfl

theorem nodes_at (s m : Int) (rs : List (Int × Int)) (ex : Bool) (nx G : Nat) : nodesS [.agg [.int .i64 s, .int .i64 m, .il (pairs rs) ex]] nx G = valR nx G (.fn (.func 57) [] [.pim [.int .i64 s, .int .i64 m, .il (pairs rs) ex] 0]) := by
  simp [nodesS]

theorem nodes_enter : Enters Try.prog 57 := ⟨Try.f57, _, Try.func57, rfl, rfl⟩

theorem solve_sound : FSound Try.prog 46 solveS := by
  refine fsound_pure Try.func46 (by kernel_rfl) rfl _ fun xs nx G d hp h => ?_
  unfold solveS at h
  split at h
  · rename_i r
    replace h := rd_opt h; obtain ⟨t, ht, h⟩ := h
    obtain ⟨ex, rfl⟩ := asTide_some ht
    split at h
    · rename_i hsm
      have hd := rd_val h
      subst hd
      have hs : t.sun ≠ 0 := by omega
      have hm : t.moon ≠ 0 := by omega
      have e1 : (t.sun.toNat : Int) = t.sun := by omega
      have e2 : (t.moon.toNat : Int) = t.moon := by omega
      have hall : (allNodes t).length ≤ 60 := by simp [allNodes]; omega
      refine ⟨by simp [Try.f46], by intro a ha; simp only [List.mem_cons, List.not_mem_nil, or_false] at ha; subst ha; exact free_tide t ex, ?_⟩
      refine .step X5.sound (by kernel_rfl) (by simp; exact rfl) ?_ -- region 0
      refine .step X5.sound (by kernel_rfl) (by simp; exact rfl) ?_ -- region 1
      refine .seq (.step X5.sound (by kernel_rfl) (by simp [nodes_at]; exact rfl) (.block ?_)) -- region 2
      have it := nodes_iter t.sun.toNat t.moon.toNat (.il (t.rs.map fun x => [.int .i64 x.1, .int .i64 x.2]) ex)
      rw [e1, e2, nodes_all] at it
      refine .view (View.norm _ [1, 3, 4, 11] [0, 1, 2, 3, 4] 5 7 (by simp)) ?_
      refine .rangeFunc nodes_enter (by simp [Try.f46]) (by simp) (it _ (by omega) (by omega)) (fun i h nx G => nx = 5 ∧ 5 ≤ G ∧ h = [(0, some (.row 3 [[.int .i64 t.sun, .int .i64 t.moon, .il (t.rs.map fun x => [.int .i64 x.1, .int .i64 x.2]) ex]] 0 true)), (1, some (.map (kvs nodA booA (first ((allNodes t).take i))) 1 0)), (2, some (.map [] 2 0)), (3, some (.row 1 [[.mp 1 1]] 3 true)), (4, some (.row 1 [[.mp 2 2]] 4 true))]) ?_ ?_ ?_ ?_
      · exact ⟨rfl, by simp, by simp [first]⟩
      · simp
      · rintro l i x h nx G1 ⟨rfl, hG, rfl⟩ hx
        obtain ⟨n, hn, rfl⟩ : ∃ n, (allNodes t)[i]? = some n ∧ nodA n = x := by simpa using hx
        refine .region X5.sound (by kernel_rfl) (by simp; exact rfl) ⟨rfl, ?_⟩ -- region 3
        refine .block (.region X5.sound (by kernel_rfl) (by simp [key_ab, up_tod]; exact rfl) ⟨rfl, ?_⟩) -- region 4
        have hk : first ((allNodes t).take (i + 1)) = upK (n.1, n.2) true (first ((allNodes t).take i)) := by rw [List.take_add_one, hn]; exact first_snoc _ _
        refine ⟨_, View.two (es1 := kvs nodA booA (first ((allNodes t).take (i + 1)))) (es2 := []) _ [] [0, 1, 2, 3, 4] 5 (G1 + 1) (by simp) (by simp [hk]; exact ⟨rfl, rfl⟩) (by simp; exact ⟨rfl, rfl⟩), rfl, by simp only []; omega, by simp⟩
      · rintro h nx G1 ⟨rfl, hG, rfl⟩
        have hfull : (allNodes t).take ((allNodes t).map nodA).length = allNodes t := by simp
        rw [hfull]
        refine .step X5.sound (by kernel_rfl) (by simp; exact rfl) ?_ -- region 5
        refine .step X5.sound (by kernel_rfl) (by simp; exact rfl) ?_ -- region 6
        refine .seq (.step X5.sound (by kernel_rfl) (by simp [nodes_at]; exact rfl) (.block ?_)) -- region 7
        refine .view (View.norm _ [1, 3, 4, 6, 17] [0, 1, 2, 3, 4, 5] 6 (G1 + 2) (by simp)) ?_
        refine .rangeFunc nodes_enter (by simp [Try.f46]) (by simp) (it _ (by omega) (by omega)) (fun i h nx G => nx = 6 ∧ G1 + 2 ≤ G ∧ ∃ u : Found, u.todo.length ≤ 60 ∧ roots t ((allNodes t).drop i) u = roots t (allNodes t) ⟨first (allNodes t), []⟩ ∧ h = visitH t ex 0 1 2 3 4 G1 u) ?_ ?_ ?_ ?_
        · exact ⟨rfl, by simp, ⟨first (allNodes t), []⟩, Nat.le_trans (first_len _) hall, rfl, by simp⟩
        · simp
        · rintro l i x h nx G2 ⟨rfl, hG2, u, hlen, hroot, rfl⟩ hx
          obtain ⟨n, hn, rfl⟩ : ∃ n, (allNodes t)[i]? = some n ∧ nodA n = x := by simpa using hx
          obtain ⟨hi, hgi⟩ := List.getElem?_eq_some_iff.1 hn
          rw [List.drop_eq_getElem_cons hi, hgi, roots] at hroot
          refine .region X5.sound (by kernel_rfl) (by simp; exact rfl) ⟨rfl, ?_⟩ -- region 8
          cases hh : (getK (n.1, n.2) u.todo).getD false with
          | true =>
            rw [if_pos (show u.has n = true from hh)] at hroot
            have hv := fun (nx G : Nat) (hp : Nat → Option AObj) => visit_at 60 n.1 n.2 n.1 n.2 0 (-1) n.1 n.2 t ex 0 1 2 3 4 G1 nx G u hp hs hm hlen hh
            refine .block (.step X5.sound (by kernel_rfl) (by simp [key_ab, find_tod, look_tod, hh]; exact rfl) ?_) -- region 9
            refine .cond (t := true) (by simp) ?_
            refine .region X5.sound (by kernel_rfl) (by simp [hv]; exact rfl) ⟨rfl, ?_⟩ -- region 10
            refine ⟨_, View.norm _ [] [0, 1, 2, 3, 4, 5] 6 (G2 + 1) (by simp), rfl, by simp only []; omega, visit t 60 n ⟨n, 0, -1, n⟩ u, Nat.le_trans (visit_len _ _ _ _ _) hlen, hroot, by simp⟩
          | false =>
            rw [if_neg (show ¬ u.has n = true by rw [show u.has n = false from hh]; simp)] at hroot
            refine .block (.step X5.sound (by kernel_rfl) (by simp [key_ab, find_tod, look_tod, hh]; exact rfl) ?_) -- region 9
            refine .cond (t := false) (by simp) (.skip ⟨rfl, ?_⟩)
            refine ⟨_, View.norm _ [] [0, 1, 2, 3, 4, 5] 6 (G2 + 1) (by simp), rfl, by simp only []; omega, u, hlen, hroot, by simp⟩
        · rintro h nx G2 ⟨rfl, hG2, u, hlen, hroot, rfl⟩
          have hu : u.sol = solve t := by
            rw [List.length_map, List.drop_length] at hroot
            show u.sol = (roots t (allNodes t) ⟨first (allNodes t), []⟩).sol
            rw [← hroot]; rfl
          refine .step X5.sound (by kernel_rfl) (by simp; exact rfl) ?_ -- region 11
          rw [← hu]
          refine .ret ⟨.inr rfl, [.mp 2 2], [.im (kvs nodA edgeA u.sol)], [(2, none)], [.im (kvs nodA edgeA u.sol)], [], [], ?_, ?_, .keep (free_sol _) (.nil _ _), .nil, rfl⟩
          · rw [show Try.f46.results.toList = [.tmp 2] from rfl]; simp
          · simp [fzP]
    · exact (rd_fail h).elim
  · exact (rd_fail h).elim

end Go.Proofs.Ytlidakhdcnkabaa

namespace Go.Proofs.Ytlidakhdcnkabaa
open Go.AI
set_option linter.unusedSimpArgs false

/-- Does a solution contradict a reading? -/
def badAt (s : List (Node × Edge)) (t : Tide) (x : Int × Int) : Bool := IntKind.i64.wrap ((atSun s t x.1).w + (atMoon s t x.1).w) != x.2

def wrong1S : FSpec := fun xs nx G => match xs with
  | [.agg [.int .i64 h, .int .i64 v], .ptr b0 g0 i0 o0, .ptr b1 g1 i1 o1] =>
    if b0 = 0 ∧ i0 = 0 ∧ o0 = 0 ∧ b1 = 1 ∧ i1 = 0 ∧ o1 = 0 then
      row? 0 g0 fun sz0 es0 _ => row? 1 g1 fun sz1 es1 _ => match es0, es1 with
      | [cs], [[.im es]] => ofOpt (asTide (.agg cs)) fun t => ofOpt (asSol es) fun s => if sz0 = 3 ∧ sz1 = 1 ∧ t.sun ≠ 0 ∧ t.moon ≠ 0 then valR nx G (.bool (badAt s t (h, v))) else .fail
      | _, _ => .fail
    else .fail
  | _ => .fail

theorem wrong1_sound : FSound Try.prog 61 wrong1S := by
  refine fsound_look Try.func61 (by kernel_rfl) rfl _ fun xs nx G d hp h => ?_
  unfold wrong1S at h
  split at h
  · rename_i k v b0 g0 i0 o0 b1 g1 i1 o1
    split at h
    · rename_i hc
      obtain ⟨rfl, rfl, rfl, rfl, rfl, rfl⟩ := hc
      replace h := rd_row h; obtain ⟨sz0, es0, wr0, k0, h⟩ := h
      replace h := rd_row h; obtain ⟨sz1, es1, wr1, k1, h⟩ := h
      split at h
      · rename_i cs es
        replace h := rd_opt h; obtain ⟨t, ht, h⟩ := h
        replace h := rd_opt h; obtain ⟨s, hs, h⟩ := h
        obtain ⟨ex, hcs⟩ := asTide_some ht
        cases hcs
        have := asSol_some hs; subst this
        split at h
        · rename_i hc
          obtain ⟨rfl, rfl, h1, h2⟩ := hc
          have hd := rd_val h
          subst hd
          refine ⟨[(0, some (.row 3 [[.int .i64 t.sun, .int .i64 t.moon, .il (t.rs.map fun x => [.int .i64 x.1, .int .i64 x.2]) ex]] g0 wr0)), (1, some (.row 1 [[.im (kvs nodA edgeA s)]] g1 wr1))], 2, g0 + g1 + 1, ?_, ?_, by simp [Try.f61], ?_, ?_⟩
          · simp [k0, k1]
          · intro e he
            simp only [List.mem_cons, List.not_mem_nil, or_false] at he
            rcases he with rfl | rfl
            · exact ⟨_, _, _, _, rfl, by omega, fun c hc a ha => (Within.agg_iff _).1 (free_tide t ex) a (by simp only [List.mem_cons, List.not_mem_nil, or_false] at hc; subst hc; exact ha)⟩
            · exact ⟨_, _, _, _, rfl, by omega, fun c hc a ha => by simp only [List.mem_cons, List.not_mem_nil, or_false] at hc; subst hc; simp only [List.mem_cons, List.not_mem_nil, or_false] at ha; subst ha; exact free_sol s⟩
          · simp [lentB, AObj.gen]
          · refine .step X2.sound (by kernel_rfl) (by simp; exact rfl) ?_ -- region 0
            refine .step X2.sound (by kernel_rfl) (by simp [ends_at, h1, h2]; exact rfl) ?_ -- region 1
            refine .draw mixed X2.sound (by kernel_rfl) (by kernel_rfl) rfl (by simp [-lookupR, look_ab]; exact ⟨rfl, rfl⟩) (looseB_spec (by kernel_rfl)) ?_ -- region 2
            exact .ret ⟨.inr rfl, look_end (l := [.tmp 4]) rfl (rs := [_]) (by simp [badAt, atSun, atMoon]) (fun k => by simp) (by simp) (by simp)⟩
        · exact (rd_fail h).elim
      · exact (rd_fail h).elim
    · exact (rd_fail h).elim
  · exact (rd_fail h).elim

end Go.Proofs.Ytlidakhdcnkabaa

namespace Go.Proofs.Ytlidakhdcnkabaa
open Go.AI
set_option linter.unusedSimpArgs false

@[simp] theorem ti105 : tiOf Try.prog 105 = some ⟨1, false, .nilf, 8, .other⟩ := by kernel_rfl

abbrev tideC (t : Tide) (ex : Bool) : List AVal := [.int .i64 t.sun, .int .i64 t.moon, .il (t.rs.map fun x => [.int .i64 x.1, .int .i64 x.2]) ex]

theorem wrong1_at (h v : Int) (s : List (Node × Edge)) (t : Tide) (ex : Bool) (g0 g1 nx G : Nat) (wr0 wr1 : Bool) (hp : Nat → Option AObj) (h1 : t.sun ≠ 0) (h2 : t.moon ≠ 0) (k0 : hp 0 = some (.row 3 [tideC t ex] g0 wr0)) (k1 : hp 1 = some (.row 1 [[.im (kvs nodA edgeA s)]] g1 wr1)) :
    (wrong1S [.agg [.int .i64 h, .int .i64 v], .ptr 0 g0 0 0, .ptr 1 g1 0 0] nx G).run hp = some ⟨.bool (badAt s t (h, v)), [], nx, G⟩ := by
  have e2 := asSol_kvs s
  simp only [kvs] at e2
  simp [wrong1S, k0, k1, h1, h2, e2]

/-- The first reading that contradicts. -/
def badIx (s : List (Node × Edge)) (t : Tide) : Nat → List (Int × Int) → Int
  | _, [] => -1
  | i, x :: l => if badAt s t x then i else badIx s t (i + 1) l

def indexS : FSpec := fun xs nx G => match xs with
  | [.il rs _, .fn (.func f) [] [.ptr b0 g0 i0 o0, .ptr b1 g1 i1 o1]] =>
    if f = 61 ∧ b0 = 0 ∧ i0 = 0 ∧ o0 = 0 ∧ b1 = 1 ∧ i1 = 0 ∧ o1 = 0 then
      row? 0 g0 fun sz0 es0 _ => row? 1 g1 fun sz1 es1 _ => match es0, es1 with
      | [cs], [[.im es]] => ofOpt (asPairs rs) fun rs => ofOpt (asTide (.agg cs)) fun t => ofOpt (asSol es) fun s => if sz0 = 3 ∧ sz1 = 1 ∧ t.sun ≠ 0 ∧ t.moon ≠ 0 then valR nx G (.int .i64 (badIx s t 0 rs)) else .fail
      | _, _ => .fail
    else .fail
  | _ => .fail

def X6 : Ext := .of [(61, wrong1S)] []
theorem X6.sound : X6.Sound Try.prog := Ext.of_sound ⟨wrong1_sound, trivial⟩
@[simp] theorem X6.raw_ (f : FuncId) : X6.raw f = false := rfl
@[simp] theorem X6.s61 : X6.spec 61 = wrong1S := rfl

theorem index_sound : FSound Try.prog 60 indexS := by
  refine fsound_look Try.func60 (by kernel_rfl) rfl _ fun xs nx G d hp h => ?_
  unfold indexS at h
  split at h
  · rename_i rs ex0 f b0 g0 i0 o0 b1 g1 i1 o1
    split at h
    · rename_i hc
      obtain ⟨rfl, rfl, rfl, rfl, rfl, rfl, rfl⟩ := hc
      replace h := rd_row h; obtain ⟨sz0, es0, wr0, k0, h⟩ := h
      replace h := rd_row h; obtain ⟨sz1, es1, wr1, k1, h⟩ := h
      split at h
      · rename_i cs es
        replace h := rd_opt h; obtain ⟨rs, hrs, h⟩ := h
        replace h := rd_opt h; obtain ⟨t, ht, h⟩ := h
        replace h := rd_opt h; obtain ⟨s, hs, h⟩ := h
        have := asPairs_some hrs; subst this
        obtain ⟨ex, hcs⟩ := asTide_some ht
        cases hcs
        have := asSol_some hs; subst this
        split at h
        · rename_i hc
          obtain ⟨rfl, rfl, h1, h2⟩ := hc
          have hd := rd_val h
          subst hd
          refine ⟨[(0, some (.row 3 [tideC t ex] g0 wr0)), (1, some (.row 1 [[.im (kvs nodA edgeA s)]] g1 wr1))], 2, g0 + g1 + 1, ?_, ?_, by simp [Try.f60], ?_, ?_⟩
          · simp [k0, k1]
          · intro e he
            simp only [List.mem_cons, List.not_mem_nil, or_false] at he
            rcases he with rfl | rfl
            · exact ⟨_, _, _, _, rfl, by omega, fun c hc a ha => (Within.agg_iff _).1 (free_tide t ex) a (by simp only [List.mem_cons, List.not_mem_nil, or_false] at hc; subst hc; exact ha)⟩
            · exact ⟨_, _, _, _, rfl, by omega, fun c hc a ha => by simp only [List.mem_cons, List.not_mem_nil, or_false] at hc; subst hc; simp only [List.mem_cons, List.not_mem_nil, or_false] at ha; subst ha; exact free_sol s⟩
          · intro a ha
            simp only [List.mem_cons, List.not_mem_nil, or_false] at ha
            rcases ha with rfl | rfl
            · exact Within.il _ _ fun e he a ha => (free_rows rs _ (fun x a ha => by simp at ha; rcases ha with rfl | rfl <;> exact .int _ _) e he a ha).mono fun _ _ h => h.elim
            · simp [lentB, AObj.gen]
          · have at1 := fun (h v : Int) (nx G : Nat) (hp : Nat → Option AObj) => wrong1_at h v s t ex g0 g1 nx G wr0 wr1 hp h1 h2
            refine .len 0 (es := pairs rs) (ex := ex0) (by simp) fun hlr => ?_
            have hb : rs.length < 9223372036854775808 := by simp [maxLen] at hlr; omega
            refine .step X6.sound (by kernel_rfl) (by simp; exact rfl) ?_ -- region 0
            refine .seq (.step X6.sound (by kernel_rfl) (by simp; exact rfl) (.block ?_)) -- region 1
            refine .loopV (fun k st => ∃ (j : Nat) (G : Nat), j ≤ rs.length ∧ k = rs.length - j ∧ badIx s t j (rs.drop j) = badIx s t 0 rs ∧ st = ⟨[(0, .il (pairs rs) ex0), (1, .fn (.func 61) [] [.ptr 0 g0 0 0, .ptr 1 g1 0 0]), (7, .int .i64 rs.length), (8, .int .i64 j)], [(0, some (.row 3 [tideC t ex] g0 wr0)), (1, some (.row 1 [[.im (kvs nodA edgeA s)]] g1 wr1))], 2, G⟩) ?_ (View.norm _ [0, 1, 7, 8] [0, 1] 2 (g0 + g1 + 1) (by simp)) ⟨0, _, by omega, rfl, rfl, by simp; exact rfl⟩
            rintro k st ⟨j, G1, hj, rfl, hbad, rfl⟩
            refine .step X6.sound (by kernel_rfl) (by simp; exact rfl) ?_ -- region 2
            refine .seq (.cond_split (by simp; exact rfl) (fun hc => ?_) (fun hc => ?_)) -- t9
            · have hj' : j < rs.length := by simpa using hc
              have hdrop : rs.drop j = rs[j] :: rs.drop (j + 1) := List.drop_eq_getElem_cons hj'
              rw [hdrop, badIx] at hbad
              refine .skip (.seq (.block ?_))
              refine .step X6.sound (by kernel_rfl) (by simp; exact rfl) ?_ -- region 3
              refine .step X6.sound (by kernel_rfl) (by simp [hj', at1]; exact rfl) ?_ -- region 4
              refine .cond_split (by simp; exact rfl) (fun hc => ?_) (fun hc => ?_) -- t16
              · rw [if_pos hc] at hbad
                rw [← hbad]
                refine .step X6.sound (by kernel_rfl) (by simp; exact rfl) ?_ -- region 5
                exact .ret ⟨.inr rfl, look_end (l := [.tmp 4]) rfl (rs := [_]) (by simp) (fun k => by simp) (by simp) (by simp)⟩
              · rw [if_neg (by rw [hc]; simp)] at hbad
                refine .skip (.region X6.sound (by kernel_rfl) (by simp; exact rfl) ?_) -- region 6
                refine ⟨_, _, View.norm _ [0, 1, 7, 8] [0, 1] 2 G1 (by simp), ?_, j + 1, G1, by omega, rfl, hbad, ?_⟩
                · omega
                · simp; exact wrap64 (by omega) (by omega)
            · have : j = rs.length := by simp at hc; omega
              subst this
              rw [List.drop_length, badIx] at hbad
              rw [← hbad]
              refine .exit (.step X6.sound (by kernel_rfl) (by simp; exact rfl) ?_) -- region 7
              exact .ret ⟨.inr rfl, look_end (l := [.tmp 4]) rfl (rs := [_]) (by simp) (fun k => by simp) (by simp) (by simp)⟩
        · exact (rd_fail h).elim
      · exact (rd_fail h).elim
    · exact (rd_fail h).elim
  · exact (rd_fail h).elim

end Go.Proofs.Ytlidakhdcnkabaa

namespace Go.Proofs.Ytlidakhdcnkabaa
open Go.AI
set_option linter.unusedSimpArgs false

theorem index_at (rs : List (Int × Int)) (ex0 : Bool) (s : List (Node × Edge)) (t : Tide) (ex : Bool) (g0 g1 nx G : Nat) (wr0 wr1 : Bool) (hp : Nat → Option AObj) (h1 : t.sun ≠ 0) (h2 : t.moon ≠ 0) (k0 : hp 0 = some (.row 3 [tideC t ex] g0 wr0)) (k1 : hp 1 = some (.row 1 [[.im (kvs nodA edgeA s)]] g1 wr1)) :
    (indexS [.il (pairs rs) ex0, .fn (.func 61) [] [.ptr 0 g0 0 0, .ptr 1 g1 0 0]] nx G).run hp = some ⟨.int .i64 (badIx s t 0 rs), [], nx, G⟩ := by
  have e2 := asSol_kvs s
  simp only [kvs] at e2
  simp [indexS, k0, k1, h1, h2, e2]

def wrongS : FSpec := fun xs nx G => match xs with
  | [r, .im es] => ofOpt (asTide r) fun t => ofOpt (asSol es) fun s => if t.sun ≠ 0 ∧ t.moon ≠ 0 then valR nx G (.int .i64 (badIx s t 0 t.rs)) else .fail
  | _ => .fail

def X7 : Ext := .of [(60, indexS)] []
theorem X7.sound : X7.Sound Try.prog := Ext.of_sound ⟨index_sound, trivial⟩
@[simp] theorem X7.raw_ (f : FuncId) : X7.raw f = false := rfl
@[simp] theorem X7.s60 : X7.spec 60 = indexS := rfl

theorem wrong_sound : FSound Try.prog 51 wrongS := by
  refine fsound_pure Try.func51 (by kernel_rfl) rfl _ fun xs nx G d hp h => ?_
  unfold wrongS at h
  split at h
  · rename_i r es
    replace h := rd_opt h; obtain ⟨t, ht, h⟩ := h
    replace h := rd_opt h; obtain ⟨s, hs, h⟩ := h
    obtain ⟨ex, rfl⟩ := asTide_some ht
    have := asSol_some hs; subst this
    split at h
    · rename_i hc
      obtain ⟨h1, h2⟩ := hc
      have hd := rd_val h
      subst hd
      refine ⟨by simp [Try.f51], by intro a ha; simp only [List.mem_cons, List.not_mem_nil, or_false] at ha; rcases ha with rfl | rfl; exact free_tide t ex; exact free_sol s, ?_⟩
      have at1 := fun (nx G : Nat) (hp : Nat → Option AObj) => index_at t.rs ex s t ex 0 1 nx G true true hp h1 h2
      refine .step X7.sound (by kernel_rfl) (by simp; exact rfl) ?_ -- region 0
      refine .step X7.sound (by kernel_rfl) (by simp [at1]; exact rfl) ?_ -- region 1
      exact .ret ⟨.inr rfl, ends_free (l := [.tmp 4]) rfl (rs := [_]) (by simp) (fun k => by simp) (by simp)⟩
    · exact (rd_fail h).elim
  · exact (rd_fail h).elim

@[simp] theorem wrong_at (t : Tide) (ex : Bool) (s : List (Node × Edge)) (h1 : t.sun ≠ 0) (h2 : t.moon ≠ 0) (nx G : Nat) : wrongS [tideA t ex, .im (kvs nodA edgeA s)] nx G = valR nx G (.int .i64 (badIx s t 0 t.rs)) := by
  have e2 := asSol_kvs s
  simp only [kvs] at e2
  simp [wrongS, h1, h2, e2]

theorem checkT_zero {t : Tide} (h : checkT t = 0) : (1 ≤ t.sun ∧ t.sun ≤ 30) ∧ (1 ≤ t.moon ∧ t.moon ≤ 30) ∧ t.rs.length ≤ 60 ∧ chk (-1) t.rs = 0 := by
  unfold checkT at h
  split at h
  · rename_i h1
    split at h
    · cases h
    · exact ⟨h1.1, h1.2, by omega, h⟩
  · cases h

/-- What solved hands back. -/
def solvedT (t : Tide) : List (Node × Edge) × Int := if checkT t ≠ 0 then ([], checkT t) else if 0 ≤ badIx (solve t) t 0 t.rs then ([], 13) else (solve t, 0)

def solvedS : FSpec := fun xs nx G => match xs with
  | [r] => ofOpt (asTide r) fun t => valR nx G (.tup [.im (kvs nodA edgeA (solvedT t).1), .int .i64 (solvedT t).2])
  | _ => .fail

@[simp] theorem check_at (t : Tide) (ex : Bool) (nx G : Nat) : checkS [tideA t ex] nx G = valR nx G (.int .i64 (checkT t)) := by simp [checkS]
theorem solve_at (t : Tide) (ex : Bool) (h : (1 ≤ t.sun ∧ t.sun ≤ 30) ∧ 1 ≤ t.moon ∧ t.moon ≤ 30) (nx G : Nat) : solveS [tideA t ex] nx G = valR nx G (.im (kvs nodA edgeA (solve t))) := by simp [solveS, h]

def X8 : Ext := .of [(21, checkS), (46, solveS), (51, wrongS)] []
theorem X8.sound : X8.Sound Try.prog := Ext.of_sound ⟨check_sound, solve_sound, wrong_sound, trivial⟩
@[simp] theorem X8.raw_ (f : FuncId) : X8.raw f = false := rfl
@[simp] theorem X8.s21 : X8.spec 21 = checkS := rfl
@[simp] theorem X8.s46 : X8.spec 46 = solveS := rfl
@[simp] theorem X8.s51 : X8.spec 51 = wrongS := rfl

theorem solved_sound : FSound Try.prog 43 solvedS := by
  refine fsound_pure Try.func43 (by kernel_rfl) rfl _ fun xs nx G d hp h => ?_
  unfold solvedS at h
  split at h
  · rename_i r
    replace h := rd_opt h; obtain ⟨t, ht, h⟩ := h
    obtain ⟨ex, rfl⟩ := asTide_some ht
    have hd := rd_val h
    subst hd
    refine ⟨by simp [Try.f43], by intro a ha; simp only [List.mem_cons, List.not_mem_nil, or_false] at ha; subst ha; exact free_tide t ex, ?_⟩
    refine .step X8.sound (by kernel_rfl) (by simp; exact rfl) ?_ -- region 0
    refine .seq (.step X8.sound (by kernel_rfl) (by simp; exact rfl) ?_) -- region 1
    refine .step X8.sound (by kernel_rfl) (by simp; exact rfl) ?_ -- region 2
    refine .cond_split (by simp; exact rfl) (fun hc => ?_) (fun hc => ?_) -- t9
    · have hc' : checkT t ≠ 0 := by simpa using hc
      have : solvedT t = ([], checkT t) := by simp [solvedT, hc']
      rw [this]
      refine .step X8.sound (by kernel_rfl) (by simp; exact rfl) ?_ -- region 3
      exact .ret ⟨.inr rfl, ends_free (l := [.tmp 2, .tmp 3]) rfl (rs := [_, _]) (by simp) (fun k => by simp) (by simp)⟩
    · have hc' : checkT t = 0 := by simpa using hc
      obtain ⟨h1, h2, _⟩ := checkT_zero hc'
      have hs : t.sun ≠ 0 := by omega
      have hm : t.moon ≠ 0 := by omega
      refine .skip ?_
      refine .step X8.sound (by kernel_rfl) (by simp [solve_at, h1, h2]; exact rfl) ?_ -- region 4
      refine .seq (.step X8.sound (by kernel_rfl) (by simp [hs, hm]; exact rfl) ?_) -- region 5
      refine .cond_split (by simp; exact rfl) (fun hc => ?_) (fun hc => ?_) -- t16
      · have hb : 0 ≤ badIx (solve t) t 0 t.rs := by simpa using hc
        have : solvedT t = ([], 13) := by simp [solvedT, hc', hb]
        rw [this]
        refine .step X8.sound (by kernel_rfl) (by simp; exact rfl) ?_ -- region 6
        exact .ret ⟨.inr rfl, ends_free (l := [.tmp 2, .tmp 3]) rfl (rs := [_, _]) (by simp) (fun k => by simp) (by simp)⟩
      · have hb : ¬ 0 ≤ badIx (solve t) t 0 t.rs := by simpa using hc
        have : solvedT t = (solve t, 0) := by simp only [solvedT, hc', ne_eq, not_true, if_false]; rw [if_neg hb]
        rw [this]
        refine .skip ?_
        refine .step X8.sound (by kernel_rfl) (by simp; exact rfl) ?_ -- region 7
        exact .ret ⟨.inr rfl, ends_free (l := [.tmp 2, .tmp 3]) rfl (rs := [_, _]) (by simp) (fun k => by simp) (by intro v hv; simp only [List.mem_cons, List.not_mem_nil, or_false] at hv; rcases hv with rfl | rfl; exact free_sol _; exact .int _ _)⟩
  · exact (rd_fail h).elim

@[simp] theorem solved_at (t : Tide) (ex : Bool) (nx G : Nat) : solvedS [tideA t ex] nx G = valR nx G (.tup [.im (kvs nodA edgeA (solvedT t).1), .int .i64 (solvedT t).2]) := by simp [solvedS]

def fitsS : FSpec := fun xs nx G => match xs with
  | [r] => ofOpt (asTide r) fun t => valR nx G (.int .i64 (solvedT t).2)
  | _ => .fail

def X9 : Ext := .of [(43, solvedS), (44, nodesS), (48, betweenS), (56, valueS)] []
theorem X9.sound : X9.Sound Try.prog := Ext.of_sound ⟨solved_sound, nodes_sound, between_sound, value_sound, trivial⟩
@[simp] theorem X9.raw_ (f : FuncId) : X9.raw f = false := rfl
@[simp] theorem X9.s43 : X9.spec 43 = solvedS := rfl
@[simp] theorem X9.s44 : X9.spec 44 = nodesS := rfl
@[simp] theorem X9.s48 : X9.spec 48 = betweenS := rfl
@[simp] theorem X9.s56 : X9.spec 56 = valueS := rfl

theorem fits_sound : FSound Try.prog 19 fitsS := by
  refine fsound_pure Try.func19 (by kernel_rfl) rfl _ fun xs nx G d hp h => ?_
  unfold fitsS at h
  split at h
  · rename_i r
    replace h := rd_opt h; obtain ⟨t, ht, h⟩ := h
    obtain ⟨ex, rfl⟩ := asTide_some ht
    have hd := rd_val h
    subst hd
    refine ⟨by simp [Try.f19], by intro a ha; simp only [List.mem_cons, List.not_mem_nil, or_false] at ha; subst ha; exact free_tide t ex, ?_⟩
    refine .step X9.sound (by kernel_rfl) (by simp; exact rfl) ?_ -- region 0
    refine .step X9.sound (by kernel_rfl) (by simp; exact rfl) ?_ -- region 1
    refine .step X9.sound (by kernel_rfl) (by simp; exact rfl) ?_ -- region 2
    exact .ret ⟨.inr rfl, ends_free (l := [.tmp 2]) rfl (rs := [_]) (by simp) (fun k => by simp) (by simp)⟩
  · exact (rd_fail h).elim

end Go.Proofs.Ytlidakhdcnkabaa
