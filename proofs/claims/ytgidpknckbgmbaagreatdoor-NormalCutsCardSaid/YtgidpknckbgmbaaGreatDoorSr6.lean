/- Sorting points: the partial insertion sort. -/
import Derived.Test.YtgidpknckbgmbaaGreatDoorSr1
import Derived.Deep.DeepCutAuto
set_option linter.unusedSimpArgs false
set_option linter.unusedVariables false
namespace Go.Proofs.YtgidpknckbgmbaaGreatDoor
open Go.RowKit Go.Sort

theorem scan_go {d : Array Int} {b i : Nat} (h : i < b) (h2 : Sort.ltInt d[i]! d[i - 1]! = false) : scanSorted Sort.ltInt d b i = scanSorted Sort.ltInt d b (i + 1) := by
  conv => lhs; unfold scanSorted
  rw [if_pos (by rw [decide_eq_true h, h2]; rfl)]
theorem scan_stop {d : Array Int} {b i : Nat} (h : ¬ i < b ∨ Sort.ltInt d[i]! d[i - 1]! = true) : scanSorted Sort.ltInt d b i = i := by
  unfold scanSorted
  rw [if_neg]
  intro e
  simp only [Bool.and_eq_true, decide_eq_true_eq, Bool.not_eq_true'] at e
  rcases h with h | h
  · exact h e.1
  · rw [h] at e; exact absurd e.2 (by decide)
theorem down_go {d : Array Int} {j : Nat} (hj : 1 ≤ j) (h : Sort.ltInt d[j]! d[j - 1]! = true) : shiftDown Sort.ltInt j d = shiftDown Sort.ltInt (j - 1) (Sort.swp d j (j - 1)) := by
  obtain ⟨k, rfl⟩ : ∃ k, j = k + 1 := ⟨j - 1, by omega⟩
  conv => lhs; unfold shiftDown
  rw [Nat.add_sub_cancel] at h ⊢
  rw [h]
  rfl
theorem down_stop {d : Array Int} {j : Nat} (h : j < 1 ∨ Sort.ltInt d[j]! d[j - 1]! = false) : shiftDown Sort.ltInt j d = d := by
  cases j with
  | zero => rfl
  | succ k =>
    rcases h with h | h
    · omega
    · unfold shiftDown
      rw [Nat.add_sub_cancel] at h
      rw [h]
      rfl
theorem up_go {d : Array Int} {b j : Nat} (hj : j < b) (h : Sort.ltInt d[j]! d[j - 1]! = true) : shiftUp Sort.ltInt b j d = shiftUp Sort.ltInt b (j + 1) (Sort.swp d j (j - 1)) := by
  conv => lhs; unfold shiftUp
  rw [if_pos hj, h]
  rfl
theorem up_stop {d : Array Int} {b j : Nat} (h : ¬ j < b ∨ Sort.ltInt d[j]! d[j - 1]! = false) : shiftUp Sort.ltInt b j d = d := by
  unfold shiftUp
  by_cases hj : j < b
  · rcases h with h | h
    · exact absurd hj h
    · rw [if_pos hj, h]; rfl
  · rw [if_neg hj]

def BoolPost (blk S : Nat) (r : Array Int × Bool) (w : World) (e : Ending) (w' : World) : Prop := e = .returned (.bool r.2) ∧ RW blk S r.1 w' ∧ w.grownBy w' (some blk)

def p1 (a i : Nat) (d : Array Int) : Array Int := if i - a ≥ 2 then shiftDown Sort.ltInt (i - 1) d else d
def p2 (b i : Nat) (d : Array Int) : Array Int := if b - i ≥ 2 then shiftUp Sort.ltInt b (i + 1) d else d
theorem partial_step (a b s i : Nat) (d : Array Int) : partialIns Sort.ltInt a b (s + 1) i d =
    if scanSorted Sort.ltInt d b i = b then (d, true) else if b - a < 50 then (d, false) else
      partialIns Sort.ltInt a b s (scanSorted Sort.ltInt d b i) (p2 b (scanSorted Sort.ltInt d b i) (p1 a (scanSorted Sort.ltInt d b i) (Sort.swp d (scanSorted Sort.ltInt d b i) (scanSorted Sort.ltInt d b i - 1)))) := rfl

set_option maxHeartbeats 4000000 in
set_option maxRecDepth 100000 in
theorem partial_any (blk S n cap a b : Nat) (d : Array Int) (w : World) (h : RW blk S d w) (hn : d.size = n) (hab : a + 12 < b) (hb : b ≤ n) (hbig : n ≤ 1048577) :
    Calls Tryz.prog 102 #[.slice (some ⟨blk, 0, none⟩) n cap, .int .i64 a, .int .i64 b] w (BoolPost blk S (partialInsertionSort Sort.ltInt d a b) w) := by
  go_enter Tryz.func102, Tryz.ntmps102
  have H := Lib.hid h
  clear h
  go_wp2
  go_loopw [7, 8] (fun vi vs wr => ∃ (i s : Nat) (dk : Array Int), a + 1 ≤ i ∧ i ≤ b ∧ s ≤ 5 ∧ vi = .int .i64 i ∧ vs = .int .i64 (5 - (s : Int)) ∧ dk.size = n ∧ Hid (partialInsertionSort Sort.ltInt d a b = partialIns Sort.ltInt a b s i dk) ∧ Hid (RW blk S dk wr) ∧ Hid (w.grownBy wr (some blk)))
    (fun _ vs _ => (5 - intOf vs).toNat)
  case atStart => exact ⟨a + 1, 5, d, by omega, by omega, by omega, by go_num, rfl, hn, rfl, H.out, World.grownBy.refl _ _⟩
  case round =>
    obtain ⟨i, s, dk, hi, hib, hs5, rfl, rfl, hsz, hF, hR, hg⟩ := hrel
    cases s with
    | zero =>
      have HF := Lib.hid hF.out
      clear hF
      rw [show (5 - ((0 : Nat) : Int)) = 5 from rfl]
      go_wp2
      go_ret
      exact ⟨by rw [HF.out]; rfl, by rw [HF.out]; exact hR.out, hg.out⟩
    | succ s =>
      have HF := Lib.hid (hF.out.trans (partial_step a b s i dk))
      clear hF
      obtain ⟨vs, hvs⟩ : ∃ vs : Int, 5 - ((s + 1 : Nat) : Int) = vs := ⟨_, rfl⟩
      rw [hvs]
      have hs4 : vs < 5 := by omega
      have hs5' : 0 ≤ vs := by omega
      have HVS := Lib.hid (show vs + 1 = 5 - (s : Int) by omega)
      clear hvs
      go_wp2
      go_loopw [7] (fun vi w2 => ∃ i2 : Nat, i ≤ i2 ∧ i2 ≤ b ∧ vi = .int .i64 i2 ∧ Hid (scanSorted Sort.ltInt dk b i = scanSorted Sort.ltInt dk b i2) ∧ Hid (RW blk S dk w2) ∧ Hid (w.grownBy w2 (some blk)))
        (fun vi _ => b - (intOf vi).toNat)
      case atStart => exact ⟨i, by omega, by omega, rfl, rfl, hR, hg⟩
      case round =>
        obtain ⟨i2, hii, hi2b, rfl, hSc, hR2, hg2⟩ := hrel
        clear hR hg
        by_cases hlt : i2 < b
        · have c1 := hR2.out.cell (j := i2) (by omega)
          have c2 := hR2.out.cell (j := i2 - 1) (by omega)
          have hL := less_any dk[i2]! dk[i2 - 1]!
          cases hl : Sort.ltInt dk[i2]! dk[i2 - 1]! with
          | false =>
            have HS := Lib.hid (hSc.out.trans (scan_go hlt hl))
            rw [hl] at hL
            clear hSc hl
            generalize dk[i2]! = x1 at c1 hL
            generalize dk[i2 - 1]! = x2 at c2 hL
            go_wp2_with fail
            go_quiet (first | (go_at_call 103; exact Calls.quiet_of_same (hL _)))
            go_wp2
            go_roundw
            case rel => exact ⟨i2 + 1, by omega, by omega, by go_num, HS.out, hR2.out, grown_drewN hg2.out nq⟩
            case measure => simp [intOf]; omega
          | true =>
            have hS2 := hSc.out.trans (scan_stop (.inr hl))
            rw [hl] at hL
            clear hSc hl
            have hF2 := HF.out
            rw [hS2, if_neg (by omega)] at hF2
            clear HF hS2
            by_cases h50 : b - a < 50
            · rw [if_pos h50] at hF2
              have HF := Lib.hid hF2
              clear hF2
              generalize dk[i2]! = x1 at c1 hL
              generalize dk[i2 - 1]! = x2 at c2 hL
              go_wp2_with fail
              go_quiet (first | (go_at_call 103; exact Calls.quiet_of_same (hL _)))
              go_wp2
              go_ret
              exact ⟨by rw [HF.out]; rfl, by rw [HF.out]; exact hR2.out, grown_drewN hg2.out nq⟩
            · rw [if_neg h50] at hF2
              have HF := Lib.hid hF2
              clear hF2
              have hne : ((i2 : Int) == (b : Int)) = false := by rw [beq_eq_false_iff_ne]; omega
              have h50' : decide ((b : Int) - (a : Int) < 50) = false := decide_eq_false (by omega)
              have hL' := hL
              have c1' := c1
              have c2' := c2
              generalize dk[i2]! = x1 at c1' hL'
              generalize dk[i2 - 1]! = x2 at c2' hL'
              clear c1 c2 hL
              go_wp2_with fail
              go_quiet (first | (go_at_call 103; exact Calls.quiet_of_same (hL' _)))
              clear c1' c2' hL'
              have hRq := Lib.hid (hR2.out.drewN nq)
              have hgq := Lib.hid (grown_drewN hg2.out nq)
              generalize wr.drewN nq = wq at hRq hgq ⊢
              clear hR2 hg2
              have c1 := hRq.out.cell (j := i2) (by omega)
              have c2 := hRq.out.cell (j := i2 - 1) (by omega)
              have fr := fun t => hRq.out.frozen t
              go_upto_region 11 with fail
              go_region
              have hR4 := hRq.out.swp i2 (i2 - 1) (by omega) (by omega)
              have hg4 := hgq.out.trans (swp_grown wq blk i2 (i2 - 1) (.int .i32 dk[i2 - 1]!) (.int .i32 dk[i2]!))
              have R4 := Lib.hid (RW.same hR4 (w' := ((wq.setCell ⟨blk, i2, none⟩ (.int .i32 dk[i2 - 1]!)).setCell ⟨blk, i2 - 1, none⟩ (.int .i32 dk[i2]!)).drew) rfl)
              have G4 := Lib.hid hg4
              have hs4 : (Sort.swp dk i2 (i2 - 1)).size = n := by rw [size_swp]; exact hsz
              clear hR4 hg4 c1 c2 fr hRq hgq
              generalize ((wq.setCell ⟨blk, i2, none⟩ (.int .i32 dk[i2 - 1]!)).setCell ⟨blk, i2 - 1, none⟩ (.int .i32 dk[i2]!)).drew = w4 at R4 G4 ⊢
              generalize Sort.swp dk i2 (i2 - 1) = d4 at R4 hs4 HF
              have HSZ := Lib.hid hs4
              clear hs4
              go_upto_if 61 with fail
              go_cut [9] from 62 (fun _ wx => ∃ dx : Array Int, dx = p1 a i2 d4 ∧ dx.size = n ∧ RW blk S dx wx ∧ w.grownBy wx (some blk))
              case first =>
                by_cases ha2 : i2 - a ≥ 2
                · have HF2 : Hid (p1 a i2 d4 = shiftDown Sort.ltInt (i2 - 1) d4) := by unfold p1; rw [if_pos ha2]; rfl
                  have ha2' : 2 ≤ (i2 : Int) - (a : Int) := by omega
                  go_wp2
                  go_loopw [9] (fun v w6 => ∃ (j : Nat) (dj : Array Int), j < i2 ∧ v = .int .i64 j ∧ dj.size = n ∧ Hid (p1 a i2 d4 = shiftDown Sort.ltInt j dj) ∧ Hid (RW blk S dj w6) ∧ Hid (w.grownBy w6 (some blk)))
                    (fun v _ => (intOf v).toNat)
                  case atStart => exact ⟨i2 - 1, d4, by omega, by go_num, HSZ.out, HF2.out, R4.out, G4.out⟩
                  case round =>
                    obtain ⟨j, dj, hj1, rfl, hsj, hFj, hRj, hgj⟩ := hrel
                    clear R4 G4 HF2
                    by_cases hj : 1 ≤ j
                    · have c1 := hRj.out.cell (j := j) (by omega)
                      have c2 := hRj.out.cell (j := j - 1) (by omega)
                      have hL := less_any dj[j]! dj[j - 1]!
                      cases hl2 : Sort.ltInt dj[j]! dj[j - 1]! with
                      | false =>
                        have HE := Lib.hid (hFj.out.trans (down_stop (.inr hl2)))
                        rw [hl2] at hL
                        clear hFj hl2
                        generalize dj[j]! = x1 at c1 hL
                        generalize dj[j - 1]! = x2 at c2 hL
                        go_upto_region 16 with fail
                        go_quiet (first | (go_at_call 103; exact Calls.quiet_of_same (hL _)))
                        go_wp2
                        go_meet
                        exact ⟨dj, HE.out.symm, hsj, hRj.out.drewN nq, grown_drewN hgj.out nq⟩
                      | true =>
                        have HE := Lib.hid (hFj.out.trans (down_go hj hl2))
                        rw [hl2] at hL
                        clear hFj hl2
                        have hL' := hL
                        have c1' := c1
                        have c2' := c2
                        generalize dj[j]! = x1 at c1' hL'
                        generalize dj[j - 1]! = x2 at c2' hL'
                        clear c1 c2 hL
                        go_upto_region 16 with fail
                        go_quiet (first | (go_at_call 103; exact Calls.quiet_of_same (hL' _)))
                        clear c1' c2' hL'
                        have hRk := Lib.hid (hRj.out.drewN nq)
                        have hgk := Lib.hid (grown_drewN hgj.out nq)
                        generalize wr.drewN nq = wk at hRk hgk ⊢
                        clear hRj hgj
                        have c1 := hRk.out.cell (j := j) (by omega)
                        have c2 := hRk.out.cell (j := j - 1) (by omega)
                        have fr := fun t => hRk.out.frozen t
                        go_upto_region 17 with fail
                        go_region
                        have hR7 := hRk.out.swp j (j - 1) (by omega) (by omega)
                        have hg7 := hgk.out.trans (swp_grown wk blk j (j - 1) (.int .i32 dj[j - 1]!) (.int .i32 dj[j]!))
                        go_wp2
                        go_roundw
                        case rel => exact ⟨j - 1, _, by omega, by go_num, by rw [size_swp]; exact hsj, HE.out, hR7, hg7⟩
                        case measure => simp [intOf]; omega
                    · have HE := Lib.hid (hFj.out.trans (down_stop (.inl (by omega))))
                      clear hFj
                      go_wp2
                      go_meet
                      exact ⟨dj, HE.out.symm, hsj, hRj.out, hgj.out⟩
                · have HF2 : Hid (p1 a i2 d4 = d4) := by unfold p1; rw [if_neg ha2]; rfl
                  have ha2' : ¬ 2 ≤ (i2 : Int) - (a : Int) := by omega
                  go_wp2
                  go_meet
                  exact ⟨d4, HF2.out.symm, HSZ.out, R4.out, G4.out⟩
              case rest =>
                obtain ⟨d5, hd5, hs5, hR5, hg5⟩ := hcut
                rw [← hd5] at HF
                clear hd5
                have R5 := Lib.hid hR5
                have G5 := Lib.hid hg5
                have HS5 := Lib.hid hs5
                clear hs5 hR5 hg5 R4 G4 HSZ
                by_cases hb2 : b - i2 ≥ 2
                · have HF2 : Hid (p2 b i2 d5 = shiftUp Sort.ltInt b (i2 + 1) d5) := by unfold p2; rw [if_pos hb2]; rfl
                  have hb2' : 2 ≤ (b : Int) - (i2 : Int) := by omega
                  go_wp2
                  go_loopw [10] (fun v w6 => ∃ (j : Nat) (dj : Array Int), i2 + 1 ≤ j ∧ j ≤ b ∧ v = .int .i64 j ∧ dj.size = n ∧ Hid (p2 b i2 d5 = shiftUp Sort.ltInt b j dj) ∧ Hid (RW blk S dj w6) ∧ Hid (w.grownBy w6 (some blk)))
                    (fun v _ => b - (intOf v).toNat)
                  case atStart => exact ⟨i2 + 1, d5, by omega, by omega, by go_num, HS5.out, HF2.out, R5.out, G5.out⟩
                  case round =>
                    obtain ⟨j, dj, hj1, hj2, rfl, hsj, hFj, hRj, hgj⟩ := hrel
                    clear R5 G5 HS5 HF2
                    by_cases hjb : j < b
                    · have c1 := hRj.out.cell (j := j) (by omega)
                      have c2 := hRj.out.cell (j := j - 1) (by omega)
                      have hL := less_any dj[j]! dj[j - 1]!
                      cases hl2 : Sort.ltInt dj[j]! dj[j - 1]! with
                      | false =>
                        have HE := Lib.hid (hFj.out.trans (up_stop (.inr hl2)))
                        rw [hl2] at hL
                        clear hFj hl2
                        generalize dj[j]! = x1 at c1 hL
                        generalize dj[j - 1]! = x2 at c2 hL
                        go_upto_region 22 with fail
                        go_quiet (first | (go_at_call 103; exact Calls.quiet_of_same (hL _)))
                        go_wp2
                        go_roundw
                        case rel => exact ⟨i2, s, dj, by omega, by omega, by omega, rfl, by rw [HVS.out], hsj, by rw [← HE.out]; exact HF.out, hRj.out, grown_drewN hgj.out nq⟩
                        case measure => simp [intOf]; omega
                      | true =>
                        have HE := Lib.hid (hFj.out.trans (up_go hjb hl2))
                        rw [hl2] at hL
                        clear hFj hl2
                        have hL' := hL
                        have c1' := c1
                        have c2' := c2
                        generalize dj[j]! = x1 at c1' hL'
                        generalize dj[j - 1]! = x2 at c2' hL'
                        clear c1 c2 hL
                        go_upto_region 22 with fail
                        go_quiet (first | (go_at_call 103; exact Calls.quiet_of_same (hL' _)))
                        clear c1' c2' hL'
                        have hRk := Lib.hid (hRj.out.drewN nq)
                        have hgk := Lib.hid (grown_drewN hgj.out nq)
                        generalize wr.drewN nq = wk at hRk hgk ⊢
                        clear hRj hgj
                        have c1 := hRk.out.cell (j := j) (by omega)
                        have c2 := hRk.out.cell (j := j - 1) (by omega)
                        have fr := fun t => hRk.out.frozen t
                        go_upto_region 23 with fail
                        go_region
                        have hR7 := hRk.out.swp j (j - 1) (by omega) (by omega)
                        have hg7 := hgk.out.trans (swp_grown wk blk j (j - 1) (.int .i32 dj[j - 1]!) (.int .i32 dj[j]!))
                        go_wp2
                        go_roundw
                        case rel => exact ⟨j + 1, _, by omega, by omega, by go_num, by rw [size_swp]; exact hsj, HE.out, hR7, hg7⟩
                        case measure => simp [intOf]; omega
                    · have HE := Lib.hid (hFj.out.trans (up_stop (.inl hjb)))
                      clear hFj
                      go_wp2
                      go_roundw
                      case rel => exact ⟨i2, s, dj, by omega, by omega, by omega, rfl, by rw [HVS.out], hsj, by rw [← HE.out]; exact HF.out, hRj.out, hgj.out⟩
                      case measure => simp [intOf]; omega
                · have HF2 : Hid (p2 b i2 d5 = d5) := by unfold p2; rw [if_neg hb2]; rfl
                  have hb2' : ¬ 2 ≤ (b : Int) - (i2 : Int) := by omega
                  go_wp2
                  go_roundw
                  case rel => exact ⟨i2, s, d5, by omega, by omega, by omega, rfl, by rw [HVS.out], HS5.out, by rw [← HF2.out]; exact HF.out, R5.out, G5.out⟩
                  case measure => simp [intOf]; omega
        · obtain rfl : i2 = b := by omega
          have hS2 := hSc.out.trans (scan_stop (.inl hlt))
          have hF2 := HF.out
          rw [hS2, if_pos rfl] at hF2
          clear HF hSc hS2
          have HF := Lib.hid hF2
          clear hF2
          go_wp2_with fail
          go_quiet (fail)
          go_wp2
          go_ret
          exact ⟨by rw [HF.out]; rfl, by rw [HF.out]; exact hR2.out, grown_drewN hg2.out nq⟩

end Go.Proofs.YtgidpknckbgmbaaGreatDoor
