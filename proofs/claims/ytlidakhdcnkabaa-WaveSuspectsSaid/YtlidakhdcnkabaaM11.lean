/- Check. The value at an hour by a solution; a bound. The function that hands the nodes. How many hours are enough. No condition. -/
import Derived.Test.YtlidakhdcnkabaaM10
namespace Go.Proofs.Ytlidakhdcnkabaa
open Go.AI
set_option linter.unusedSimpArgs false

def betweenS : FSpec := fun xs nx G => match xs with
  | [.int .i64 a, .int .i64 b, .int .i64 c] => valR nx G (.bool (decide (a ≤ b) && decide (b ≤ c)))
  | _ => .fail

theorem between_sound : FSound Try.prog 48 betweenS := by
  refine fsound_pure Try.func48 (by kernel_rfl) rfl _ fun xs nx G d hp h => ?_
  unfold betweenS at h
  split at h
  · rename_i a b c
    have hd := rd_val h
    subst hd
    refine ⟨by simp [Try.f48], by simp, ?_⟩
    refine .step X0.sound (by kernel_rfl) (by simp; exact rfl) ?_
    by_cases hc : a ≤ b
    · refine .step X0.sound (by kernel_rfl) (by simp [hc]; exact rfl) ?_
      simp only [hc, decide_true, Bool.true_and]
      exact .ret ⟨.inr rfl, ends_free (l := [.tmp 6]) rfl (rs := [.bool (decide (b ≤ c))]) (by simp) (fun k => by simp) (by simp)⟩
    · refine .step X0.sound (by kernel_rfl) (by simp [hc]; exact rfl) ?_
      simp only [hc, decide_false, Bool.false_and]
      exact .ret ⟨.inr rfl, ends_free (l := [.tmp 6]) rfl (rs := [.bool false]) (by simp) (fun k => by simp) (by simp)⟩
  · exact (rd_fail h).elim

def X1 : Ext := .of [(48, betweenS)] []
theorem X1.sound : X1.Sound Try.prog := Ext.of_sound ⟨between_sound, trivial⟩
@[simp] theorem X1.raw_ (f : FuncId) : X1.raw f = false := rfl
@[simp] theorem X1.s48 : X1.spec 48 = betweenS := rfl
@[simp] theorem betweenS_int (a b c : Int) (nx G : Nat) : betweenS [.int .i64 a, .int .i64 b, .int .i64 c] nx G = valR nx G (.bool (decide (a ≤ b) && decide (b ≤ c))) := rfl

/-- What Check finds along the readings. -/
def chk (p : Int) : List (Int × Int) → Int
  | [] => 0
  | x :: l => if (0 ≤ x.1 ∧ x.1 ≤ 100000) ∧ -1000000 ≤ x.2 ∧ x.2 ≤ 1000000 then (if x.1 ≤ p then 5 else chk x.1 l) else 1

def checkT (t : Tide) : Int := if (1 ≤ t.sun ∧ t.sun ≤ 30) ∧ 1 ≤ t.moon ∧ t.moon ≤ 30 then (if 60 < t.rs.length then 3 else chk (-1) t.rs) else 1

@[simp] theorem ti31 : tiOf Try.prog 31 = some ⟨1, false, .int .i64 0, 8, .int .i64⟩ := by kernel_rfl

def checkS : FSpec := fun xs nx G => match xs with
  | [r] => ofOpt (asTide r) fun t => valR nx G (.int .i64 (checkT t))
  | _ => .fail

theorem check_sound : FSound Try.prog 21 checkS := by
  refine fsound_pure Try.func21 (by kernel_rfl) rfl _ fun xs nx G d hp h => ?_
  unfold checkS at h
  split at h
  · rename_i r
    replace h := rd_opt h; obtain ⟨t, ht, h⟩ := h
    obtain ⟨ex, rfl⟩ := asTide_some ht
    have hd := rd_val h
    subst hd
    refine ⟨by simp [Try.f21], by intro a ha; simp only [List.mem_cons, List.not_mem_nil, or_false] at ha; subst ha; exact free_tide t ex, ?_⟩
    refine .step X1.sound (by kernel_rfl) (by simp; exact rfl) ?_
    have one : ∀ {s : St} {v : Int}, tget s.tmps 2 = .int .i64 v → Ends0 Try.prog Try.f21 s nx G ⟨.int .i64 v, [], nx, G⟩ := fun {s v} hv => ends_free (l := [.tmp 2]) rfl (rs := [.int .i64 v]) (by simp [hv]) (fun k => by simp) (by simp)
    refine .seq (.block ?_)
    have neg : ∀ {a b c : Int}, ¬ (a ≤ b ∧ b ≤ c) → (decide (a ≤ b) && decide (b ≤ c)) = false := fun {a b c} hn => by rw [← Bool.decide_and]; simpa using hn
    by_cases h1 : 1 ≤ t.sun ∧ t.sun ≤ 30
    · by_cases h2 : 1 ≤ t.moon ∧ t.moon ≤ 30
      · refine .step X1.sound (by kernel_rfl) (by simp [h1.1, h1.2, h2.1, h2.2]; exact rfl) ?_
        refine .cond (t := false) (by simp) (.step X1.sound (by kernel_rfl) (by simp; exact rfl) ?_)
        refine .cond_split (by simp; exact rfl) (fun hc => ?_) (fun hc => ?_)
        · have hl : 60 < t.rs.length := by simp at hc; omega
          refine .step X1.sound (by kernel_rfl) (by simp; exact rfl) (.ret ⟨.inr rfl, ?_⟩)
          have : checkT t = 3 := by simp [checkT, h1, h2, hl]
          rw [this]
          exact one (by simp)
        · have hl : ¬ 60 < t.rs.length := by simp at hc; omega
          have hck : checkT t = chk (-1) t.rs := by simp [checkT, h1, h2, hl]
          rw [hck]
          refine .skip (.step X1.sound (by kernel_rfl) (by simp; exact rfl) (.seq (.step X1.sound (by kernel_rfl) (by simp; exact rfl) (.block ?_))))
          refine .loopV (fun k st => ∃ (j : Nat) (p : Int) (G : Nat), j ≤ t.rs.length ∧ k = t.rs.length - j ∧ chk p (t.rs.drop j) = chk (-1) t.rs ∧ st = ⟨[(3, .int .i64 p), (23, .il (pairs t.rs) ex), (24, .int .i64 t.rs.length), (25, .int .i64 j)], [], 0, G⟩) ?_ (View.norm _ [3, 23, 24, 25] [] 0 1 (by simp)) ⟨0, -1, 1, by omega, rfl, by simp, by simp⟩
          rintro k st ⟨j, p, G1, hj, rfl, hck', rfl⟩
          refine .step X1.sound (by kernel_rfl) (by simp; exact rfl) ?_
          refine .seq (.cond_split (by simp; exact rfl) (fun hc => ?_) (fun hc => ?_))
          · have hj' : j < t.rs.length := by simpa using hc
            have hdrop : t.rs.drop j = t.rs[j] :: t.rs.drop (j + 1) := List.drop_eq_getElem_cons hj'
            refine .skip (.seq (.block (.step X1.sound (by kernel_rfl) (by simp [hj']; exact rfl) (.seq (.block ?_)))))
            rw [hdrop, chk] at hck'
            rw [← hck']
            by_cases g1 : 0 ≤ t.rs[j].1 ∧ t.rs[j].1 ≤ 100000
            · by_cases g2 : -1000000 ≤ t.rs[j].2 ∧ t.rs[j].2 ≤ 1000000
              · rw [if_pos ⟨g1, g2⟩] at hck' ⊢
                refine .step X1.sound (by kernel_rfl) (by simp [g1.1, g1.2, g2.1, g2.2]; exact rfl) ?_
                refine .cond (t := false) (by simp) (.step X1.sound (by kernel_rfl) (by simp; exact rfl) ?_)
                refine .cond_split (by simp; exact rfl) (fun hc => ?_) (fun hc => ?_)
                · have g3 : t.rs[j].1 ≤ p := by simpa using hc
                  rw [if_pos g3]
                  exact .step X1.sound (by kernel_rfl) (by simp; exact rfl) (.ret ⟨.inr rfl, one (by simp)⟩)
                · have g3 : ¬ t.rs[j].1 ≤ p := by simpa using hc
                  rw [if_neg g3] at hck' ⊢
                  refine .skip (.region X1.sound (by kernel_rfl) (by simp; exact rfl) (.region X1.sound (by kernel_rfl) (by simp; exact rfl) ?_))
                  refine ⟨_, _, View.norm _ [3, 23, 24, 25] [] 0 (G1 + 1) (by simp), ?_, j + 1, t.rs[j].1, G1 + 1, by omega, rfl, rfl, ?_⟩
                  · omega
                  · simp; exact wrap64 (by omega) (by omega)
              · rw [if_neg fun h => g2 h.2]
                refine .step X1.sound (by kernel_rfl) (by simp [g1.1, g1.2, neg g2]; exact rfl) ?_
                exact .cond (t := true) (by simp) (.step X1.sound (by kernel_rfl) (by simp; exact rfl) (.ret ⟨.inr rfl, one (by simp)⟩))
            · rw [if_neg fun h => g1 h.1]
              refine .step X1.sound (by kernel_rfl) (by simp [neg g1]; exact rfl) ?_
              exact .cond (t := true) (by simp) (.step X1.sound (by kernel_rfl) (by simp; exact rfl) (.ret ⟨.inr rfl, one (by simp)⟩))
          · have : j = t.rs.length := by simp at hc; omega
            subst this
            simp only [List.drop_length, chk] at hck'
            rw [← hck']
            exact .exit (.step X1.sound (by kernel_rfl) (by simp; exact rfl) (.ret ⟨.inr rfl, one (by simp)⟩))
      · refine .step X1.sound (by kernel_rfl) (by simp [h1.1, h1.2, neg h2]; exact rfl) ?_
        refine .cond (t := true) (by simp) (.step X1.sound (by kernel_rfl) (by simp; exact rfl) (.ret ⟨.inr rfl, ?_⟩))
        have : checkT t = 1 := by simp only [checkT]; rw [if_neg (fun h => h2 h.2)]
        rw [this]
        exact one (by simp)
    · refine .step X1.sound (by kernel_rfl) (by simp [neg h1]; exact rfl) ?_
      refine .cond (t := true) (by simp) (.step X1.sound (by kernel_rfl) (by simp; exact rfl) (.ret ⟨.inr rfl, ?_⟩))
      have : checkT t = 1 := by simp only [checkT]; rw [if_neg (fun h => h1 h.1)]
      rw [this]
      exact one (by simp)
  · exact (rd_fail h).elim

end Go.Proofs.Ytlidakhdcnkabaa

namespace Go.Proofs.Ytlidakhdcnkabaa
open Go.AI
set_option linter.unusedSimpArgs false

def isS : FSpec := fun xs nx G => match xs with
  | [.int .i64 a, .int .i64 b, .int .i64 c] => valR nx G (.bool (decide (b ≤ a) && decide (a ≤ c)))
  | _ => .fail

theorem is_sound : FSound Try.prog 49 isS := by
  refine fsound_pure Try.func49 (by kernel_rfl) rfl _ fun xs nx G d hp h => ?_
  unfold isS at h
  split at h
  · rename_i a b c
    have hd := rd_val h
    subst hd
    refine ⟨by simp [Try.f49], by simp, ?_⟩
    refine .step X0.sound (by kernel_rfl) (by simp; exact rfl) ?_
    by_cases hc : b ≤ a
    · refine .step X0.sound (by kernel_rfl) (by simp [hc]; exact rfl) ?_
      simp only [hc, decide_true, Bool.true_and]
      exact .ret ⟨.inr rfl, ends_free (l := [.tmp 6]) rfl (rs := [.bool (decide (a ≤ c))]) (by simp) (fun k => by simp) (by simp)⟩
    · refine .step X0.sound (by kernel_rfl) (by simp [hc]; exact rfl) ?_
      simp only [hc, decide_false, Bool.false_and]
      exact .ret ⟨.inr rfl, ends_free (l := [.tmp 6]) rfl (rs := [.bool false]) (by simp) (fun k => by simp) (by simp)⟩
  · exact (rd_fail h).elim

@[simp] theorem eqg82 : Try.prog.eqGuardType Try.prog.depth 82 = false := by kernel_rfl

theorem look_ab (nx G : Nat) (s : List ((Int × Int) × Edge)) (a b : Int) : lookupR Try.prog nx G 75 (.im (kvs nodA edgeA s)) (.agg [.int .i64 a, .int .i64 b]) false = valR nx G (edgeA ((getK (a, b) s).getD zeroE)) := look_way nx G s (a, b)

theorem eq_ab (a b c d : Int) : eqT Try.prog eqD 82 (.agg [.int .i64 a, .int .i64 b]) (.agg [.int .i64 c, .int .i64 d]) = some (decide ((a, b) = (c, d))) := node_eq (a, b) (c, d)

def X2 : Ext := .of [(48, betweenS), (52, endsS)] []
theorem X2.sound : X2.Sound Try.prog := Ext.of_sound ⟨between_sound, ends_sound, trivial⟩
@[simp] theorem X2.raw_ (f : FuncId) : X2.raw f = false := rfl
@[simp] theorem X2.s48 : X2.spec 48 = betweenS := rfl
@[simp] theorem X2.s52 : X2.spec 52 = endsS := rfl

theorem ends_at (s m : Int) (rs : List (Int × Int)) (ex : Bool) (h : Int) (hs : s ≠ 0) (hm : m ≠ 0) (nx G : Nat) : endsS [.agg [.int .i64 s, .int .i64 m, .il (pairs rs) ex], .int .i64 h] nx G = valR nx G (.tup [.agg [.int .i64 0, .int .i64 (h.tmod s)], .agg [.int .i64 1, .int .i64 (h.tmod m)]]) := by
  simp [endsS, hs, hm]

/-- The two waves' nodes at an hour, and what a solution says there. -/
def atSun (s : List ((Int × Int) × Edge)) (t : Tide) (h : Int) : Edge := (getK (0, h.tmod t.sun) s).getD zeroE
def atMoon (s : List ((Int × Int) × Edge)) (t : Tide) (h : Int) : Edge := (getK (1, h.tmod t.moon) s).getD zeroE

def valueS : FSpec := fun xs nx G => match xs with
  | [r, .im es, .int .i64 h] => ofOpt (asTide r) fun t => ofOpt (asSol es) fun s => if t.sun = 0 ∨ t.moon = 0 then .fail else
      valR nx G (.tup [.int .i64 (IntKind.i64.wrap ((atSun s t h).w + (atMoon s t h).w)), .bool (decide ((atSun s t h).root = (atMoon s t h).root))])
  | _ => .fail

theorem value_sound : FSound Try.prog 56 valueS := by
  refine fsound_pure Try.func56 (by kernel_rfl) rfl _ fun xs nx G d hp h => ?_
  unfold valueS at h
  split at h
  · rename_i r es k
    replace h := rd_opt h; obtain ⟨t, ht, h⟩ := h
    replace h := rd_opt h; obtain ⟨s, hs, h⟩ := h
    obtain ⟨ex, rfl⟩ := asTide_some ht
    have := asSol_some hs; subst this
    split at h
    · exact (rd_fail h).elim
    · rename_i hsm
      have hd := rd_val h
      subst hd
      have h1 : t.sun ≠ 0 := fun e => hsm (.inl e)
      have h2 : t.moon ≠ 0 := fun e => hsm (.inr e)
      refine ⟨by simp [Try.f56], by intro a ha; simp only [List.mem_cons, List.not_mem_nil, or_false] at ha; rcases ha with rfl | rfl | rfl; exact free_tide t ex; exact free_sol s; exact .int _ _, ?_⟩
      refine .step X2.sound (by kernel_rfl) (by simp; exact rfl) ?_
      refine .step X2.sound (by kernel_rfl) (by simp [ends_at, h1, h2]; exact rfl) ?_
      refine .draw mixed X2.sound (by kernel_rfl) (by kernel_rfl) rfl (by simp [-lookupR, look_ab, eq_ab]; exact ⟨rfl, rfl⟩) (looseB_spec (by kernel_rfl)) ?_
      have e : decide ((atSun s t k).root = (atMoon s t k).root) = (decide ((atSun s t k).root.1 = (atMoon s t k).root.1) && decide ((atSun s t k).root.2 = (atMoon s t k).root.2)) := by
        rw [← Bool.decide_and]; simp only [Prod.ext_iff]
      rw [e]
      exact .ret ⟨.inr rfl, ends_free (l := [.tmp 6, .tmp 7]) rfl (rs := [_, _]) (by simp [atSun, atMoon]; rfl) (fun k => by simp) (by simp)⟩
  · exact (rd_fail h).elim

end Go.Proofs.Ytlidakhdcnkabaa

namespace Go.Proofs.Ytlidakhdcnkabaa
open Go.AI
set_option linter.unusedSimpArgs false

def nodesS : FSpec := fun xs nx G => match xs with
  | [.agg cs] => ofOpt (asTide (.agg cs)) fun _ => valR nx G (.fn (.func 57) [] [.pim cs 0])
  | _ => .fail

theorem nodes_sound : FSound Try.prog 44 nodesS := by
  refine fsound_pure Try.func44 (by kernel_rfl) rfl _ fun xs nx G d hp h => ?_
  unfold nodesS at h
  split at h
  · rename_i cs
    replace h := rd_opt h; obtain ⟨t, ht, h⟩ := h
    obtain ⟨ex, hcs⟩ := asTide_some ht
    cases hcs
    have hd := rd_val h
    subst hd
    refine ⟨by simp [Try.f44], by intro a ha; simp only [List.mem_cons, List.not_mem_nil, or_false] at ha; subst ha; exact free_tide t ex, ?_⟩
    refine .step X0.sound (by kernel_rfl) (by simp; exact rfl) ?_
    refine .step X0.sound (by kernel_rfl) (by simp; exact rfl) (.ret ⟨.inr rfl, ?_⟩)
    have hfree := (Within.agg_iff _).1 (free_tide t ex)
    refine ⟨[.fn (.func 57) [] [.ptr 0 0 0 0]], [.fn (.func 57) [] [.pim [.int .i64 t.sun, .int .i64 t.moon, .il (pairs t.rs) ex] 0]], [(0, some (.row 3 [[.int .i64 t.sun, .int .i64 t.moon, .il (pairs t.rs) ex]] 0 false))], [.fn (.func 57) [] [.pim [.int .i64 t.sun, .int .i64 t.moon, .il (pairs t.rs) ex] 0]], [], [], ?_, ?_, .keep (.fn _ _ _ (by simp) fun a ha => ?_) (.nil _ _), .nil, rfl⟩
    · rw [show Try.f44.results.toList = [.tmp 2] from rfl]; simp
    · simp [fzP]
    · simp only [List.mem_cons, List.not_mem_nil, or_false] at ha
      subst ha
      exact .pim _ _ hfree
  · exact (rd_fail h).elim

theorem asSol_kvs (s : List ((Int × Int) × Edge)) : asSol (kvs nodA edgeA s) = some s := by
  induction s with
  | nil => rfl
  | cons x s ih =>
    simp only [asSol, kvs, List.map_cons, List.mapM_cons] at ih ⊢
    rw [ih]
    rfl

end Go.Proofs.Ytlidakhdcnkabaa

namespace Go.Proofs.Ytlidakhdcnkabaa
open Go.AI
set_option linter.unusedSimpArgs false

def enoughS : FSpec := fun xs nx G => match xs with
  | [.int .i64 p, .int .i64 q] => if (1 ≤ p ∧ p ≤ 30) ∧ 1 ≤ q ∧ q ≤ 30 then valR nx G (.tup [.int .i64 (p + q - Nat.gcd p.toNat q.toNat), .int .i64 0]) else valR nx G (.tup [.int .i64 0, .int .i64 1])
  | _ => .fail

theorem enough_sound : FSound Try.prog 37 enoughS := by
  refine fsound_pure Try.func37 (by kernel_rfl) rfl _ fun xs nx G d hp h => ?_
  unfold enoughS at h
  split at h
  · rename_i p q
    have neg : ∀ {a b c : Int}, ¬ (a ≤ b ∧ b ≤ c) → (decide (a ≤ b) && decide (b ≤ c)) = false := fun {a b c} hn => by rw [← Bool.decide_and]; simpa using hn
    refine ⟨by simp [Try.f37], by simp, ?_⟩
    refine .step X1.sound (by kernel_rfl) (by simp; exact rfl) ?_
    have two : ∀ {s : St} {v c : Int}, tget s.tmps 4 = .int .i64 v → tget s.tmps 5 = .int .i64 c → Ends0 Try.prog Try.f37 s nx G ⟨.tup [.int .i64 v, .int .i64 c], [], nx, G⟩ := fun {s v c} h1 h2 => ends_free (l := [.tmp 4, .tmp 5]) rfl (rs := [.int .i64 v, .int .i64 c]) (by simp [h1, h2]) (fun k => by simp) (by simp)
    split at h
    · rename_i hpq
      obtain ⟨⟨p1, p2⟩, q1, q2⟩ := hpq
      have hd := rd_val h
      subst hd
      refine .seq (.step X1.sound (by kernel_rfl) (by simp [p1, p2, q1, q2]; exact rfl) ?_)
      refine .cond (t := false) (by simp) (.skip ?_)
      refine .step X1.sound (by kernel_rfl) (by simp; exact rfl) ?_
      refine .seq (.block ?_)
      refine .loopV (fun k st => ∃ a b : Nat, k = b ∧ a ≤ 30 ∧ b ≤ 30 ∧ Nat.gcd a b = Nat.gcd p.toNat q.toNat ∧ st = ⟨[(0, .int .i64 p), (1, .int .i64 q), (6, .int .i64 a), (7, .int .i64 b)], [], 0, 0⟩) ?_ (View.norm _ [0, 1, 6, 7] [] 0 0 (by simp)) ⟨p.toNat, q.toNat, rfl, by omega, by omega, rfl, by simp; omega⟩
      rintro k st ⟨a, b, rfl, ha, hb, hg, rfl⟩
      refine .seq (.step X1.sound (by kernel_rfl) (by simp; exact rfl) ?_)
      refine .cond_split (by simp; exact rfl) (fun hc => ?_) (fun hc => ?_)
      · have hk : 0 < k := by simpa using hc
        have hk0 : k ≠ 0 := by omega
        refine .skip (.block (.drawn mixed X1.sound (by kernel_rfl) (by kernel_rfl) (runD_tr (by simp [hk0]; exact ⟨rfl, rfl⟩)) (looseB_spec (by kernel_rfl)) ?_))
        refine ⟨_, _, View.norm _ [0, 1, 6, 7] [] 0 0 (by simp), Nat.mod_lt a hk, k, a % k, rfl, hb, ?_, ?_, ?_⟩
        · have := Nat.mod_lt a hk; omega
        · rw [← hg, Nat.gcd_comm k, ← Nat.gcd_rec, Nat.gcd_comm]
        · simp
          exact Int.ofNat_tmod a k
      · have hk : k = 0 := by simp at hc; omega
        subst hk
        rw [Nat.gcd_zero_right] at hg
        subst hg
        have hle : p.toNat.gcd q.toNat ≤ 30 := ha
        refine .exit (.step X1.sound (by kernel_rfl) (by simp; exact rfl) (.ret ⟨.inr rfl, two ?_ (by simp)⟩))
        have e1 : IntKind.i64.wrap (p + q) = p + q := wrap64 (by omega) (by omega)
        simp [e1]
        exact wrap64 (by omega) (by omega)
    · rename_i hpq
      have hd := rd_val h
      subst hd
      by_cases h1 : 1 ≤ p ∧ p ≤ 30
      · have h2 : ¬ (1 ≤ q ∧ q ≤ 30) := fun h2 => hpq ⟨h1, h2⟩
        refine .seq (.step X1.sound (by kernel_rfl) (by simp [h1.1, h1.2, neg h2]; exact rfl) ?_)
        exact .cond (t := true) (by simp) (.step X1.sound (by kernel_rfl) (by simp; exact rfl) (.ret ⟨.inr rfl, two (by simp) (by simp)⟩))
      · refine .seq (.step X1.sound (by kernel_rfl) (by simp [neg h1]; exact rfl) ?_)
        exact .cond (t := true) (by simp) (.step X1.sound (by kernel_rfl) (by simp; exact rfl) (.ret ⟨.inr rfl, two (by simp) (by simp)⟩))
  · exact (rd_fail h).elim

end Go.Proofs.Ytlidakhdcnkabaa
