/- Sorting points: the pivot. Sorting points: the choice of the pivot. -/
import Derived.Test.YtgidpknckbgmbaaGreatDoorSr1
import Derived.Test.YtgidpknckbgmbaaGreatDoorRd
import Derived.Sort.LotD4
import Derived.Deep.DeepCutAuto
set_option linter.unusedSimpArgs false
set_option linter.unusedVariables false
namespace Go.Proofs.YtgidpknckbgmbaaGreatDoor
open Go.RowKit Go.Sort

def Sw (sb : Nat) (s : Nat) (w : World) : Prop := IsBlk w sb 3 #[.int .i64 s]
theorem Sw.ne {sb s blk S : Nat} {d : Array Int} {w : World} (h : Sw sb s w) (hr : RW blk S d w) : sb ≠ blk := by
  rintro rfl
  obtain ⟨cur, h1, _⟩ := hr
  unfold Sw IsBlk at h
  rw [h] at h1
  cases h1
theorem RW.other {blk S g : Nat} {d : Array Int} {w w' : World} (h : RW blk S d w) (hg : w.grownBy w' (some g)) (hne : g ≠ blk) : RW blk S d w' :=
  h.same (hg.block blk h.lt (fun e => hne (by cases e; rfl)))

def OrdPost (blk S : Nat) (d : Array Int) (sb : Nat) (r : Nat × Nat × Nat) (w : World) (e : Ending) (w' : World) : Prop :=
  e = .returned (.tuple #[.int .i64 r.1, .int .i64 r.2.1]) ∧ RW blk S d w' ∧ Sw sb r.2.2 w' ∧ w.grownBy w' (some sb)

set_option maxHeartbeats 1000000 in
set_option maxRecDepth 100000 in
theorem order2_any (blk S n cap a b sb s : Nat) (d : Array Int) (w : World) (h : RW blk S d w) (hs : Sw sb s w) (hn : d.size = n) (ha : a < n) (hb : b < n) (hbig : n ≤ 1048577) (hsm : s ≤ 1000) :
    Calls Tryz.prog 131 #[.slice (some ⟨blk, 0, none⟩) n cap, .int .i64 a, .int .i64 b, .pointer (some ⟨sb, 0, none⟩)] w (OrdPost blk S d sb (order2 Sort.ltInt d a b s) w) := by
  have c1 := h.cell (j := a) (by omega)
  have c2 := h.cell (j := b) (by omega)
  have hL := less_any d[b]! d[a]!
  have H := Lib.hid h
  have HS := Lib.hid hs
  have hne := hs.ne h
  have hrn : ∀ n, w.grownBy (w.drewN n) (some sb) := fun n => grown_drewN (World.grownBy.refl _ _) n
  have HG := Lib.hid hrn
  clear h hs hrn
  unfold order2
  cases hl : Sort.ltInt d[b]! d[a]! with
  | false =>
    rw [hl] at hL
    clear hl
    generalize d[a]! = x1 at c1 hL
    generalize d[b]! = x2 at c2 hL
    go_enter Tryz.func131, Tryz.ntmps131
    go_wp2_with fail
    go_quiet (first | (go_at_call 103; exact Calls.quiet_of_same (hL _)))
    go_wp2
    go_ret2
    exact ⟨rfl, H.out.drewN nq, HS.out, HG.out nq⟩
  | true =>
    rw [hl] at hL
    clear hl
    generalize d[a]! = x1 at c1 hL
    generalize d[b]! = x2 at c2 hL
    go_enter Tryz.func131, Tryz.ntmps131
    go_wp2_with fail
    go_quiet (first | (go_at_call 103; exact Calls.quiet_of_same (hL _)))
    have h1 : RW blk S d (w.drewN nq) := H.out.drewN nq
    have h2 : Sw sb s (w.drewN nq) := HS.out
    have h3 := HG.out nq
    generalize w.drewN nq = w1 at h1 h2 h3 ⊢
    have d1 := IsBlk.cell h2 0
    have d2 := IsBlk.frozen h2 0
    simp only [List.getElem?_toArray, List.getElem?_cons_zero] at d1
    have H1 := Lib.hid h1
    have H2 := Lib.hid h2
    have H3 := Lib.hid h3
    clear h1 h2 h3 c1 c2 hL
    go_wp2
    go_ret2
    have hg := H3.out.trans (grownBy_setCell' w1 sb (.int .i64 ((s : Int) + 1)))
    exact ⟨rfl, H1.out.other (grownBy_setCell' w1 sb _) hne, IsBlk.set_ H2.out 0 _, hg⟩

def MedPost (blk S : Nat) (d : Array Int) (sb : Nat) (r : Nat × Nat) (w : World) (e : Ending) (w' : World) : Prop :=
  e = .returned (.int .i64 r.1) ∧ RW blk S d w' ∧ Sw sb r.2 w' ∧ w.grownBy w' (some sb)

set_option maxHeartbeats 1000000 in
set_option maxRecDepth 100000 in
theorem median_any (blk S n cap a b c sb s : Nat) (d : Array Int) (w : World) (h : RW blk S d w) (hs : Sw sb s w) (hn : d.size = n) (ha : a < n) (hb : b < n) (hc : c < n) (hbig : n ≤ 1048577) (hsm : s ≤ 900) :
    Calls Tryz.prog 124 #[.slice (some ⟨blk, 0, none⟩) n cap, .int .i64 a, .int .i64 b, .int .i64 c, .pointer (some ⟨sb, 0, none⟩)] w (MedPost blk S d sb (median Sort.ltInt d a b c s) w) := by
  have m1 := order2_mem Sort.ltInt d a b s
  have n1 := order2_count Sort.ltInt d a b s
  have H1 := Lib.hid (order2_any blk S n cap a b sb s d w h hs hn ha hb hbig (by omega))
  unfold median
  simp only []
  generalize order2 Sort.ltInt d a b s = r1 at m1 n1 H1 ⊢
  obtain ⟨a1, b1, s1⟩ := r1
  simp only at m1 n1 H1 ⊢
  have m2 := order2_mem Sort.ltInt d b1 c s1
  have n2 := order2_count Sort.ltInt d b1 c s1
  have H2 := Lib.hid (fun w1 h1 h2 => order2_any blk S n cap b1 c sb s1 d w1 h1 h2 hn (by omega) hc hbig (by omega))
  generalize order2 Sort.ltInt d b1 c s1 = r2 at m2 n2 H2 ⊢
  obtain ⟨b2, c2, s2⟩ := r2
  simp only at m2 n2 H2 ⊢
  have m3 := order2_mem Sort.ltInt d a1 b2 s2
  have n3 := order2_count Sort.ltInt d a1 b2 s2
  have H3 := Lib.hid (fun w1 h1 h2 => order2_any blk S n cap a1 b2 sb s2 d w1 h1 h2 hn (by omega) (by omega) hbig (by omega))
  generalize order2 Sort.ltInt d a1 b2 s2 = r3 at m3 n3 H3 ⊢
  obtain ⟨a3, b3, s3⟩ := r3
  simp only at m3 n3 H3 ⊢
  clear h hs
  go_enter Tryz.func124, Tryz.ntmps124
  go_wp2_with (first
    | (go_at_call 131; refine (H3.out _ (Hid.out p2) (Hid.out q2)).mono ?_; rintro e w3 ⟨rfl, p3, q3, g3⟩; have p3 := Lib.hid p3; have q3 := Lib.hid q3; have g3 := Lib.hid ((Hid.out g2).trans g3))
    | (go_at_call 131; refine (H2.out _ (Hid.out p1) (Hid.out q1)).mono ?_; rintro e w2 ⟨rfl, p2, q2, g2⟩; have p2 := Lib.hid p2; have q2 := Lib.hid q2; have g2 := Lib.hid ((Hid.out g1).trans g2))
    | (go_at_call 131; refine H1.out.mono ?_; rintro e w1 ⟨rfl, p1, q1, g1⟩; have p1 := Lib.hid p1; have q1 := Lib.hid q1; have g1 := Lib.hid g1))
  go_ret
  exact ⟨rfl, Hid.out p3, Hid.out q3, Hid.out g3⟩

set_option maxHeartbeats 1000000 in
set_option maxRecDepth 100000 in
theorem medianAdj_any (blk S n cap a sb s : Nat) (d : Array Int) (w : World) (h : RW blk S d w) (hs : Sw sb s w) (hn : d.size = n) (ha : 1 ≤ a) (hb : a + 1 < n) (hbig : n ≤ 1048577) (hsm : s ≤ 900) :
    Calls Tryz.prog 123 #[.slice (some ⟨blk, 0, none⟩) n cap, .int .i64 a, .pointer (some ⟨sb, 0, none⟩)] w (MedPost blk S d sb (medianAdjacent Sort.ltInt d a s) w) := by
  have H1 := median_any blk S n cap (a - 1) a (a + 1) sb s d w h hs hn (by omega) (by omega) (by omega) hbig hsm
  rw [show ((a - 1 : Nat) : Int) = (a : Int) - 1 by omega, show ((a + 1 : Nat) : Int) = (a : Int) + 1 by omega] at H1
  have HH := Lib.hid H1
  unfold medianAdjacent
  clear h hs H1
  go_enter Tryz.func123, Tryz.ntmps123
  go_wp2_with (go_at_call 124; refine HH.out.mono ?_; rintro e w1 ⟨rfl, p1, q1, g1⟩)
  go_ret
  exact ⟨rfl, p1, q1, g1⟩

end Go.Proofs.YtgidpknckbgmbaaGreatDoor

namespace Go.Proofs.YtgidpknckbgmbaaGreatDoor
open Go.RowKit Go.Sort

def PivPost (blk S : Nat) (d : Array Int) (c : Nat × Hint) (w : World) (e : Ending) (w' : World) : Prop :=
  e = .returned (.tuple #[.int .i64 c.1, .int .i64 (hintCode c.2)]) ∧ RW blk S d w' ∧ w.grownBy w' none

theorem hint_cases (s : Nat) : (s = 0 ∧ hintOf s = .increasing) ∨ (s = 12 ∧ hintOf s = .decreasing) ∨ (s ≠ 0 ∧ s ≠ 12 ∧ hintOf s = .unknown) := by
  unfold hintOf
  by_cases h : s = 0
  · simp [h]
  · by_cases h2 : s = 12
    · simp [h2]
    · simp [h, h2]

theorem grown_new {w w' : World} {o : Obj} (h : (w.alloc o).grownBy w' (some w.heap.size)) : w.grownBy w' none :=
  ⟨h.os, h.tape, h.output, Nat.le_trans (by simp) h.size, fun k hk _ => (h.block k (by simp; omega) (fun e => by cases e; omega)).trans (Below.heap_alloc w o k hk)⟩

set_option maxHeartbeats 2000000 in
set_option maxRecDepth 100000 in
theorem pivot_any (blk S n cap a b : Nat) (d : Array Int) (w : World) (h : RW blk S d w) (hn : d.size = n) (hab : a + 12 < b) (hb : b ≤ n) (hbig : n ≤ 1048577) :
    Calls Tryz.prog 100 #[.slice (some ⟨blk, 0, none⟩) n cap, .int .i64 a, .int .i64 b] w (PivPost blk S d (choosePivot Sort.ltInt d a b) w) := by
  rw [choosePivot_eq]
  obtain ⟨m, hm⟩ : ∃ m, b - a = m := ⟨_, rfl⟩
  obtain ⟨t, ht⟩ : ∃ t, m / 4 = t := ⟨_, rfl⟩
  have hp : rawPivot Sort.ltInt d a b = if 50 ≤ m then
      median Sort.ltInt d (medianAdjacent Sort.ltInt d (a + t) 0).1 (medianAdjacent Sort.ltInt d (a + t * 2) (medianAdjacent Sort.ltInt d (a + t) 0).2).1
        (medianAdjacent Sort.ltInt d (a + t * 3) (medianAdjacent Sort.ltInt d (a + t * 2) (medianAdjacent Sort.ltInt d (a + t) 0).2).2).1
        (medianAdjacent Sort.ltInt d (a + t * 3) (medianAdjacent Sort.ltInt d (a + t * 2) (medianAdjacent Sort.ltInt d (a + t) 0).2).2).2
      else median Sort.ltInt d (a + t) (a + t * 2) (a + t * 3) 0 := by
    unfold rawPivot
    rw [hm, if_pos (by omega), ht, Nat.mul_one]
  have hw1 : (b : Int) - (a : Int) = (m : Int) := by omega
  have hw2 : (m : Int) / 4 = (t : Int) := by omega
  have hs0 : Sw w.heap.size 0 (w.alloc (.cells #[.int .i64 0] 3)) := IsBlk.new w _ _
  have h0 : RW blk S d (w.alloc (.cells #[.int .i64 0] 3)) := h.same (Below.heap_alloc w _ _ h.lt)
  have e2 : ((a + t * 2 : Nat) : Int) = (a : Int) + (t : Int) * 2 := by omega
  have e3 : ((a + t * 3 : Nat) : Int) = (a : Int) + (t : Int) * 3 := by omega
  have e1 : ((a + t : Nat) : Int) = (a : Int) + (t : Int) := by omega
  by_cases h50 : 50 ≤ m
  · rw [if_pos h50] at hp
    rw [hp]
    clear hp
    have ht4 : 12 ≤ t ∧ 4 * t ≤ m := by omega
    have hm1 := medianAdjacent_mem Sort.ltInt d (a + t) 0
    have hc1 := medianAdjacent_count Sort.ltInt d (a + t) 0
    have H1 := medianAdj_any blk S n cap (a + t) w.heap.size 0 d _ h0 hs0 hn (by omega) (by omega) hbig (by omega)
    rw [e1] at H1
    generalize medianAdjacent Sort.ltInt d (a + t) 0 = r1 at hm1 hc1 H1 ⊢
    obtain ⟨i1, s1⟩ := r1
    simp only at hm1 hc1 H1 ⊢
    have hm2 := medianAdjacent_mem Sort.ltInt d (a + t * 2) s1
    have hc2 := medianAdjacent_count Sort.ltInt d (a + t * 2) s1
    have H2 : ∀ w1, RW blk S d w1 → Sw w.heap.size s1 w1 → _ := fun w1 h1 h2 => medianAdj_any blk S n cap (a + t * 2) w.heap.size s1 d w1 h1 h2 hn (by omega) (by omega) hbig (by omega)
    rw [e2] at H2
    generalize medianAdjacent Sort.ltInt d (a + t * 2) s1 = r2 at hm2 hc2 H2 ⊢
    obtain ⟨i2, s2⟩ := r2
    simp only at hm2 hc2 H2 ⊢
    have hm3 := medianAdjacent_mem Sort.ltInt d (a + t * 3) s2
    have hc3 := medianAdjacent_count Sort.ltInt d (a + t * 3) s2
    have H3 : ∀ w1, RW blk S d w1 → Sw w.heap.size s2 w1 → _ := fun w1 h1 h2 => medianAdj_any blk S n cap (a + t * 3) w.heap.size s2 d w1 h1 h2 hn (by omega) (by omega) hbig (by omega)
    rw [e3] at H3
    generalize medianAdjacent Sort.ltInt d (a + t * 3) s2 = r3 at hm3 hc3 H3 ⊢
    obtain ⟨i3, s3⟩ := r3
    simp only at hm3 hc3 H3 ⊢
    have H4 : ∀ w1, RW blk S d w1 → Sw w.heap.size s3 w1 → _ := fun w1 h1 h2 => median_any blk S n cap i1 i2 i3 w.heap.size s3 d w1 h1 h2 hn (by omega) (by omega) (by omega) hbig (by omega)
    generalize median Sort.ltInt d i1 i2 i3 s3 = r at H4 ⊢
    obtain ⟨p, s⟩ := r
    simp only at H4 ⊢
    have H1 := Lib.hid H1
    have H2 := Lib.hid H2
    have H3 := Lib.hid H3
    have H4 := Lib.hid H4
    clear h hs0 h0 e1 e2 e3 hm hm1 hm2 hm3 hc1 hc2 hc3
    go_enter Tryz.func100, Tryz.ntmps100
    go_upto_region 12 with (first
      | (go_at_call 124; refine ((Hid.out H4) _ (Hid.out p3) (Hid.out q3)).mono ?_; rintro e w4 ⟨rfl, p1, q1, g4⟩; have g1 := (Hid.out g3).trans g4)
      | (go_at_call 123; refine ((Hid.out H3) _ (Hid.out p2) (Hid.out q2)).mono ?_; rintro e w3 ⟨rfl, p3, q3, g3⟩; have p3 := Lib.hid p3; have q3 := Lib.hid q3; have g3 := Lib.hid ((Hid.out g2).trans g3))
      | (go_at_call 123; refine ((Hid.out H2) _ (Hid.out p1) (Hid.out q1)).mono ?_; rintro e w2 ⟨rfl, p2, q2, g2⟩; have p2 := Lib.hid p2; have q2 := Lib.hid q2; have g2 := Lib.hid ((Hid.out g1).trans g2))
      | (go_at_call 123; refine (Hid.out H1).mono ?_; rintro e w1 ⟨rfl, p1, q1, g1⟩; have p1 := Lib.hid p1; have q1 := Lib.hid q1; have g1 := Lib.hid g1))
    have d1 := IsBlk.cell q1 0
    simp only [List.getElem?_toArray, List.getElem?_cons_zero] at d1
    have P := Lib.hid p1
    have G := Lib.hid (grown_new g1)
    have HE := Lib.hid (hint_cases s)
    clear p1 q1 g1
    rcases HE.out with ⟨rfl, e⟩ | ⟨rfl, e⟩ | ⟨z1, z2, e⟩
    · rw [e]
      clear e
      go_wp2
      go_ret2
      exact ⟨rfl, P.out, G.out⟩
    · rw [e]
      clear e
      go_wp2
      go_ret2
      exact ⟨rfl, P.out, G.out⟩
    · have HE2 := Lib.hid e
      have z3 : ((s : Int) == 0) = false := by rw [beq_eq_false_iff_ne]; omega
      have z4 : ((s : Int) == 12) = false := by rw [beq_eq_false_iff_ne]; omega
      clear e
      go_wp2
      go_ret2
      refine ⟨?_, P.out, G.out⟩
      rw [HE2.out]
      rfl
  · rw [if_neg h50] at hp
    have n1 := median_count Sort.ltInt d (a + t) (a + t * 2) (a + t * 3) 0
    have H1 := median_any blk S n cap (a + t) (a + t * 2) (a + t * 3) w.heap.size 0 d _ h0 hs0 hn (by omega) (by omega) (by omega) hbig (by omega)
    rw [e1, e2, e3] at H1
    rw [hp]
    generalize median Sort.ltInt d (a + t) (a + t * 2) (a + t * 3) 0 = r at n1 H1 ⊢
    obtain ⟨p, s⟩ := r
    have HH := Lib.hid H1
    clear H1 hp h hs0 h0 e1 e2 e3 hm
    go_enter Tryz.func100, Tryz.ntmps100
    go_upto_region 12 with (go_at_call 124; refine HH.out.mono ?_; rintro e w1 ⟨rfl, p1, q1, g1⟩)
    have d1 := IsBlk.cell q1 0
    simp only [List.getElem?_toArray, List.getElem?_cons_zero] at d1
    have P := Lib.hid p1
    have G := Lib.hid (grown_new g1)
    have HE := Lib.hid (hint_cases s)
    clear p1 q1 g1
    rcases HE.out with ⟨rfl, e⟩ | ⟨rfl, e⟩ | ⟨z1, z2, e⟩
    · rw [e]
      clear e
      go_wp2
      go_ret2
      exact ⟨rfl, P.out, G.out⟩
    · rw [e]
      clear e
      go_wp2
      go_ret2
      exact ⟨rfl, P.out, G.out⟩
    · have HE2 := Lib.hid e
      have z3 : ((s : Int) == 0) = false := by rw [beq_eq_false_iff_ne]; omega
      have z4 : ((s : Int) == 12) = false := by rw [beq_eq_false_iff_ne]; omega
      clear e
      go_wp2
      go_ret2
      refine ⟨?_, P.out, G.out⟩
      rw [HE2.out]
      rfl

end Go.Proofs.YtgidpknckbgmbaaGreatDoor
