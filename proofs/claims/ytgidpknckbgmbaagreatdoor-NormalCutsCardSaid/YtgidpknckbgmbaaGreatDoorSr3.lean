/- Sorting points: the heap sort. Sorting points: the heap sort, whole. -/
import Derived.Test.YtgidpknckbgmbaaGreatDoorSr1
import Derived.Deep.DeepCutAuto
set_option linter.unusedSimpArgs false
set_option linter.unusedVariables false
namespace Go.Proofs.YtgidpknckbgmbaaGreatDoor
open Go.RowKit Go.Sort

/-- Where the sift goes on. -/
def siftTo (hi first root : Nat) (d : Array Int) : Nat := if 2 * root + 1 + 1 < hi ∧ Sort.ltInt d[first + (2 * root + 1)]! d[first + (2 * root + 1) + 1]! = true then 2 * root + 2 else 2 * root + 1
theorem sift_end {hi first root : Nat} {d : Array Int} (h : hi ≤ 2 * root + 1) : siftDown Sort.ltInt hi first root d = d := by
  unfold siftDown
  rw [dif_pos h]
theorem sift_stop {hi first root : Nat} {d : Array Int} (h : ¬ hi ≤ 2 * root + 1) (h2 : Sort.ltInt d[first + root]! d[first + siftTo hi first root d]! = false) : siftDown Sort.ltInt hi first root d = d := by
  unfold siftDown
  rw [dif_neg h]
  unfold siftTo at h2
  by_cases hc : 2 * root + 1 + 1 < hi ∧ Sort.ltInt d[first + (2 * root + 1)]! d[first + (2 * root + 1) + 1]! = true
  · rw [if_pos hc] at h2
    rw [if_pos (by rw [hc.2, decide_eq_true hc.1]; rfl), if_pos (by rw [h2]; rfl)]
  · rw [if_neg hc] at h2
    rw [if_neg (by intro e; simp at e; exact hc ⟨by omega, e.2⟩), if_pos (by rw [h2]; rfl)]
theorem sift_go {hi first root : Nat} {d : Array Int} (h : ¬ hi ≤ 2 * root + 1) (h2 : Sort.ltInt d[first + root]! d[first + siftTo hi first root d]! = true) :
    siftDown Sort.ltInt hi first root d = siftDown Sort.ltInt hi first (siftTo hi first root d) (Sort.swp d (first + root) (first + siftTo hi first root d)) := by
  conv => lhs; unfold siftDown
  rw [dif_neg h]
  unfold siftTo at h2 ⊢
  by_cases hc : 2 * root + 1 + 1 < hi ∧ Sort.ltInt d[first + (2 * root + 1)]! d[first + (2 * root + 1) + 1]! = true
  · rw [if_pos hc] at h2 ⊢
    rw [if_pos (by rw [hc.2, decide_eq_true hc.1]; rfl), if_neg (by rw [h2]; simp), dif_pos (by omega)]
  · rw [if_neg hc] at h2 ⊢
    rw [if_neg (by intro e; simp at e; exact hc ⟨by omega, e.2⟩), if_neg (by rw [h2]; simp)]
theorem siftTo_lt {hi first root : Nat} {d : Array Int} (h : ¬ hi ≤ 2 * root + 1) : root < siftTo hi first root d ∧ siftTo hi first root d < hi := by
  unfold siftTo
  split <;> omega

set_option maxHeartbeats 2000000 in
set_option maxRecDepth 100000 in
theorem sift_any (blk S n cap lo hi first : Nat) (d : Array Int) (w : World) (h : RW blk S d w) (hn : d.size = n) (hf : first + hi ≤ n) (hlo : lo ≤ n) (hbig : n ≤ 1048577) :
    Calls Tryz.prog 120 #[.slice (some ⟨blk, 0, none⟩) n cap, .int .i64 lo, .int .i64 hi, .int .i64 first] w (SrtPost blk S (siftDown Sort.ltInt hi first lo d) w) := by
  go_enter Tryz.func120, Tryz.ntmps120
  have H := Lib.hid h
  clear h
  go_wp2
  go_loopw [8] (fun v wr => ∃ (r : Nat) (dk : Array Int), r ≤ n ∧ v = .int .i64 r ∧ dk.size = n ∧ Hid (siftDown Sort.ltInt hi first lo d = siftDown Sort.ltInt hi first r dk) ∧ Hid (RW blk S dk wr) ∧ Hid (w.grownBy wr (some blk)))
    (fun v _ => n - (intOf v).toNat)
  case atStart => exact ⟨lo, d, hlo, rfl, hn, rfl, H.out, World.grownBy.refl _ _⟩
  case round =>
    obtain ⟨r, dk, hr, rfl, hs, hF, hR, hg⟩ := hrel
    by_cases hend : hi ≤ 2 * r + 1
    · have HF := Lib.hid (hF.out.trans (sift_end hend))
      clear hF
      go_wp2
      refine bodyPost_ret (results_none rfl _ _ _) rfl ?_
      exact ⟨rfl, by rw [HF.out]; exact hR.out, hg.out⟩
    · have hw : IntKind.i64.wrap (2 * (r : Int) + 1 + 1) = 2 * (r : Int) + 1 + 1 := IntWalk.i64_in _ (by omega)
      by_cases h2 : 2 * r + 1 + 1 < hi
      · have hd : decide (2 * (r : Int) + 1 + 1 < (hi : Int)) = true := decide_eq_true (by omega)
        have c1 : wr.cell? ⟨blk, first + (2 * r + 1), none⟩ = some (.int .i32 dk[first + (2 * r + 1)]!) := hR.out.cell (by omega)
        have c2 : wr.cell? ⟨blk, first + (2 * r + 1) + 1, none⟩ = some (.int .i32 dk[first + (2 * r + 1) + 1]!) := hR.out.cell (by omega)
        have hL := less_any dk[first + (2 * r + 1)]! dk[first + (2 * r + 1) + 1]!
        go_wp2_with fail
        cases hl : Sort.ltInt dk[first + (2 * r + 1)]! dk[first + (2 * r + 1) + 1]! with
        | false =>
          rw [hl] at hL
          have ht : siftTo hi first r dk = 2 * r + 1 := by unfold siftTo; rw [if_neg (by rw [hl]; simp)]
          go_quiet (first | (go_at_call 103; exact Calls.quiet_of_same (hL _)))
          clear c1 c2 hL
          have hRq := Lib.hid (hR.out.drewN nq)
          have hgq := Lib.hid (grown_drewN hg.out nq)
          generalize wr.drewN nq = wq at hRq hgq ⊢
          clear hR hg
          have hL2 := less_any dk[first + r]! dk[first + (2 * r + 1)]!
          have c0 : wq.cell? ⟨blk, first + r, none⟩ = some (.int .i32 dk[first + r]!) := hRq.out.cell (by omega)
          have c3 : wq.cell? ⟨blk, first + (2 * r + 1), none⟩ = some (.int .i32 dk[first + (2 * r + 1)]!) := hRq.out.cell (by omega)
          go_wp2_with fail
          cases hl2 : Sort.ltInt dk[first + r]! dk[first + (2 * r + 1)]! with
          | false =>
            rw [hl2] at hL2
            have HF := Lib.hid (hF.out.trans (sift_stop hend (by rw [ht]; exact hl2)))
            clear hF ht
            go_quiet (first | (go_at_call 103; exact Calls.quiet_of_same (hL2 _)))
            go_wp2
            refine bodyPost_ret (results_none rfl _ _ _) rfl ?_
            exact ⟨rfl, by rw [HF.out]; exact hRq.out, grown_drewN hgq.out _⟩
          | true =>
            rw [hl2] at hL2
            have HF := Lib.hid (hF.out.trans (sift_go hend (by rw [ht]; exact hl2)))
            rw [ht] at HF
            clear hF ht
            go_quiet (first | (go_at_call 103; exact Calls.quiet_of_same (hL2 _)))
            have hRz := Lib.hid (hRq.out.drewN nq)
            have hgz := Lib.hid (grown_drewN hgq.out nq)
            generalize wq.drewN nq = wz at hRz hgz ⊢
            clear c0 c3 hRq hgq
            have c0 : wz.cell? ⟨blk, first + r, none⟩ = some (.int .i32 dk[first + r]!) := hRz.out.cell (by omega)
            have c3 : wz.cell? ⟨blk, first + (2 * r + 1), none⟩ = some (.int .i32 dk[first + (2 * r + 1)]!) := hRz.out.cell (by omega)
            have fr := fun t => hRz.out.frozen t
            go_wp2_with fail
            go_region
            have hR4 := hRz.out.swp (first + r) (first + (2 * r + 1)) (by omega) (by omega)
            have hg4 := swp_grown wz blk (first + r) (first + (2 * r + 1)) (.int .i32 dk[first + (2 * r + 1)]!) (.int .i32 dk[first + r]!)
            go_wp2
            go_roundw
            case rel => exact ⟨2 * r + 1, _, by omega, by go_num, by rw [size_swp]; exact hs, HF.out, hR4, hgz.out.trans hg4⟩
            case measure => simp [intOf]; omega
        | true =>
          rw [hl] at hL
          have ht : siftTo hi first r dk = 2 * r + 2 := by unfold siftTo; rw [if_pos ⟨h2, hl⟩]
          go_quiet (first | (go_at_call 103; exact Calls.quiet_of_same (hL _)))
          clear c1 c2 hL
          have hRq := Lib.hid (hR.out.drewN nq)
          have hgq := Lib.hid (grown_drewN hg.out nq)
          generalize wr.drewN nq = wq at hRq hgq ⊢
          clear hR hg
          have hL2 := less_any dk[first + r]! dk[first + (2 * r + 2)]!
          have c0 : wq.cell? ⟨blk, first + r, none⟩ = some (.int .i32 dk[first + r]!) := hRq.out.cell (by omega)
          have c3 : wq.cell? ⟨blk, first + (2 * r + 2), none⟩ = some (.int .i32 dk[first + (2 * r + 2)]!) := hRq.out.cell (by omega)
          go_wp2_with fail
          cases hl2 : Sort.ltInt dk[first + r]! dk[first + (2 * r + 2)]! with
          | false =>
            rw [hl2] at hL2
            have HF := Lib.hid (hF.out.trans (sift_stop hend (by rw [ht]; exact hl2)))
            clear hF ht
            go_quiet (first | (go_at_call 103; exact Calls.quiet_of_same (hL2 _)))
            go_wp2
            refine bodyPost_ret (results_none rfl _ _ _) rfl ?_
            exact ⟨rfl, by rw [HF.out]; exact hRq.out, grown_drewN hgq.out _⟩
          | true =>
            rw [hl2] at hL2
            have HF := Lib.hid (hF.out.trans (sift_go hend (by rw [ht]; exact hl2)))
            rw [ht] at HF
            clear hF ht
            go_quiet (first | (go_at_call 103; exact Calls.quiet_of_same (hL2 _)))
            have hRz := Lib.hid (hRq.out.drewN nq)
            have hgz := Lib.hid (grown_drewN hgq.out nq)
            generalize wq.drewN nq = wz at hRz hgz ⊢
            clear c0 c3 hRq hgq
            have c0 : wz.cell? ⟨blk, first + r, none⟩ = some (.int .i32 dk[first + r]!) := hRz.out.cell (by omega)
            have c3 : wz.cell? ⟨blk, first + (2 * r + 2), none⟩ = some (.int .i32 dk[first + (2 * r + 2)]!) := hRz.out.cell (by omega)
            have fr := fun t => hRz.out.frozen t
            go_wp2_with fail
            go_region
            have hR4 := hRz.out.swp (first + r) (first + (2 * r + 2)) (by omega) (by omega)
            have hg4 := swp_grown wz blk (first + r) (first + (2 * r + 2)) (.int .i32 dk[first + (2 * r + 2)]!) (.int .i32 dk[first + r]!)
            go_wp2
            go_roundw
            case rel => exact ⟨2 * r + 2, _, by omega, by go_num, by rw [size_swp]; exact hs, HF.out, hR4, hgz.out.trans hg4⟩
            case measure => simp [intOf]; omega
      · have ht : siftTo hi first r dk = 2 * r + 1 := by unfold siftTo; rw [if_neg (fun h => h2 h.1)]
        have hd : decide (2 * (r : Int) + 1 + 1 < (hi : Int)) = false := decide_eq_false (by omega)
        go_wp2_with fail
        go_quiet (fail)
        have hRq := Lib.hid (hR.out.drewN nq)
        have hgq := Lib.hid (grown_drewN hg.out nq)
        generalize wr.drewN nq = wq at hRq hgq ⊢
        clear hR hg
        have hL2 := less_any dk[first + r]! dk[first + (2 * r + 1)]!
        have c0 : wq.cell? ⟨blk, first + r, none⟩ = some (.int .i32 dk[first + r]!) := hRq.out.cell (by omega)
        have c3 : wq.cell? ⟨blk, first + (2 * r + 1), none⟩ = some (.int .i32 dk[first + (2 * r + 1)]!) := hRq.out.cell (by omega)
        go_wp2_with fail
        cases hl2 : Sort.ltInt dk[first + r]! dk[first + (2 * r + 1)]! with
        | false =>
          rw [hl2] at hL2
          have HF := Lib.hid (hF.out.trans (sift_stop hend (by rw [ht]; exact hl2)))
          clear hF ht
          go_quiet (first | (go_at_call 103; exact Calls.quiet_of_same (hL2 _)))
          go_wp2
          refine bodyPost_ret (results_none rfl _ _ _) rfl ?_
          exact ⟨rfl, by rw [HF.out]; exact hRq.out, grown_drewN hgq.out _⟩
        | true =>
          rw [hl2] at hL2
          have HF := Lib.hid (hF.out.trans (sift_go hend (by rw [ht]; exact hl2)))
          rw [ht] at HF
          clear hF ht
          go_quiet (first | (go_at_call 103; exact Calls.quiet_of_same (hL2 _)))
          have hRz := Lib.hid (hRq.out.drewN nq)
          have hgz := Lib.hid (grown_drewN hgq.out nq)
          generalize wq.drewN nq = wz at hRz hgz ⊢
          clear c0 c3 hRq hgq
          have c0 : wz.cell? ⟨blk, first + r, none⟩ = some (.int .i32 dk[first + r]!) := hRz.out.cell (by omega)
          have c3 : wz.cell? ⟨blk, first + (2 * r + 1), none⟩ = some (.int .i32 dk[first + (2 * r + 1)]!) := hRz.out.cell (by omega)
          have fr := fun t => hRz.out.frozen t
          go_wp2_with fail
          go_region
          have hR4 := hRz.out.swp (first + r) (first + (2 * r + 1)) (by omega) (by omega)
          have hg4 := swp_grown wz blk (first + r) (first + (2 * r + 1)) (.int .i32 dk[first + (2 * r + 1)]!) (.int .i32 dk[first + r]!)
          go_wp2
          go_roundw
          case rel => exact ⟨2 * r + 1, _, by omega, by go_num, by rw [size_swp]; exact hs, HF.out, hR4, hgz.out.trans hg4⟩
          case measure => simp [intOf]; omega

end Go.Proofs.YtgidpknckbgmbaaGreatDoor

namespace Go.Proofs.YtgidpknckbgmbaaGreatDoor
open Go.RowKit Go.Sort

theorem siftDown_size (hi first root : Nat) (d : Array Int) : (siftDown Sort.ltInt hi first root d).size = d.size := by
  induction h : hi - root using Nat.strongRecOn generalizing root d with
  | _ m ih =>
    by_cases hend : hi ≤ 2 * root + 1
    · rw [sift_end hend]
    · obtain ⟨t1, t2⟩ := siftTo_lt (first := first) (d := d) hend
      cases hl : Sort.ltInt d[first + root]! d[first + siftTo hi first root d]! with
      | false => rw [sift_stop hend hl]
      | true => rw [sift_go hend hl, ih (hi - siftTo hi first root d) (by omega) _ _ rfl, size_swp]

set_option maxHeartbeats 2000000 in
set_option maxRecDepth 100000 in
theorem heap_any (blk S n cap a b : Nat) (d : Array Int) (w : World) (h : RW blk S d w) (hn : d.size = n) (hab : a < b) (hb : b ≤ n) (hbig : n ≤ 1048577) :
    Calls Tryz.prog 98 #[.slice (some ⟨blk, 0, none⟩) n cap, .int .i64 a, .int .i64 b] w (SrtPost blk S (heapSort Sort.ltInt d a b) w) := by
  obtain ⟨m, hm⟩ : ∃ m, b - a = m := ⟨_, rfl⟩
  have hF0 : heapSort Sort.ltInt d a b = heapPop Sort.ltInt a m (heapBuild Sort.ltInt m a ((m - 1) / 2 + 1) d) := by
    unfold heapSort
    rw [hm]
  have HF0 := Lib.hid hF0
  have hw1 : (b : Int) - (a : Int) = (m : Int) := by omega
  have hm2 : a + m = b := by omega
  have HM2 := Lib.hid hm2
  clear hF0 hm hm2
  go_enter Tryz.func98, Tryz.ntmps98
  have H := Lib.hid h
  clear h
  go_upto_region 4 with fail
  go_loopw [9] (fun v wr => ∃ (k : Nat) (dk : Array Int), k ≤ m ∧ v = .int .i64 ((k : Int) - 1) ∧ dk.size = n ∧ Hid (heapSort Sort.ltInt d a b = heapPop Sort.ltInt a m (heapBuild Sort.ltInt m a k dk)) ∧ Hid (RW blk S dk wr) ∧ Hid (w.grownBy wr (some blk)))
    (fun v _ => (intOf v + 1).toNat)
  case atStart => exact ⟨(m - 1) / 2 + 1, d, by omega, by go_num, hn, HF0.out, H.out, World.grownBy.refl _ _⟩
  case round =>
    obtain ⟨k, dk, hk, rfl, hs, hF, hR, hg⟩ := hrel
    cases k with
    | succ k =>
      have hv : (((k + 1 : Nat) : Int) - 1) = (k : Int) := by omega
      rw [hv]
      have HC := Lib.hid (sift_any blk S n cap k m a dk wr hR.out hs (by have := HM2.out; omega) (by omega) hbig)
      have hsz : (siftDown Sort.ltInt m a k dk).size = n := by rw [siftDown_size]; exact hs
      have HF := Lib.hid (hF.out.trans rfl)
      clear hF hv
      go_wp2_with (go_at_call 120; refine HC.out.mono ?_; rintro e w2 ⟨rfl, hR2, hg2⟩)
      go_roundw
      case rel => exact ⟨k, _, by omega, rfl, hsz, HF.out, hR2, hg.out.trans hg2⟩
      case measure => simp [intOf]
    | zero =>
      have HF := Lib.hid hF.out
      clear hF
      rw [show (((0 : Nat) : Int) - 1) = -1 from rfl]
      go_upto_region 8 with fail
      go_loopw [10] (fun v w2 => ∃ (k : Nat) (dj : Array Int), k ≤ m ∧ v = .int .i64 ((k : Int) - 1) ∧ dj.size = n ∧ Hid (heapSort Sort.ltInt d a b = heapPop Sort.ltInt a k dj) ∧ Hid (RW blk S dj w2) ∧ Hid (w.grownBy w2 (some blk)))
        (fun v _ => (intOf v + 1).toNat)
      case atStart => exact ⟨m, dk, by omega, by go_num, hs, HF.out, hR, hg⟩
      case round =>
        obtain ⟨k2, dj, hk2, rfl, hs2, hF2, hR2, hg2⟩ := hrel
        clear hR hg HF
        have ham := HM2.out
        cases k2 with
        | succ k2 =>
          have hv : (((k2 + 1 : Nat) : Int) - 1) = (k2 : Int) := by omega
          rw [hv]
          have HF := Lib.hid (hF2.out.trans rfl)
          have c1 := hR2.out.cell (j := a) (by omega)
          have c2 := hR2.out.cell (j := a + k2) (by omega)
          have fr := fun t => hR2.out.frozen t
          have c5 := (hR2.out.set a dj[a + k2]! (by omega)).cell (j := a + k2) (by simp; omega)
          generalize Value.int .i32 (dj.setIfInBounds a dj[a + k2]!)[a + k2]! = v5 at c5
          clear hF2 hv
          go_upto_region 10 with fail
          go_region
          have hR4 := hR2.out.swp a (a + k2) (by omega) (by omega)
          have hg4 := hg2.out.trans (swp_grown wr blk a (a + k2) (.int .i32 dj[a + k2]!) (.int .i32 dj[a]!))
          have HR4 := Lib.hid hR4
          have HG4 := Lib.hid hg4
          have hsz4 : (Sort.swp dj a (a + k2)).size = n := by rw [size_swp]; exact hs2
          have HC := Lib.hid (sift_any blk S n cap 0 k2 a _ _ (RW.same hR4 (w' := ((wr.setCell ⟨blk, a, none⟩ (.int .i32 dj[a + k2]!)).setCell ⟨blk, a + k2, none⟩ (.int .i32 dj[a]!)).drew) rfl) hsz4 (by omega) (by omega) hbig)
          have hsz : (siftDown Sort.ltInt k2 a 0 (Sort.swp dj a (a + k2))).size = n := by rw [siftDown_size]; exact hsz4
          clear c1 c2 c5 fr hR4 hg4
          go_wp2_with (go_at_call 120; refine HC.out.mono ?_; rintro e w2 ⟨rfl, hR5, hg5⟩)
          go_roundw
          case rel => exact ⟨k2, _, by omega, by go_num, hsz, HF.out, hR5, HG4.out.trans hg5⟩
          case measure => simp [intOf]
        | zero =>
          have HF := Lib.hid hF2.out
          clear hF2
          rw [show (((0 : Nat) : Int) - 1) = -1 from rfl]
          go_wp2
          go_end0
          exact ⟨rfl, by rw [HF.out]; exact hR2.out, hg2.out⟩

end Go.Proofs.YtgidpknckbgmbaaGreatDoor
