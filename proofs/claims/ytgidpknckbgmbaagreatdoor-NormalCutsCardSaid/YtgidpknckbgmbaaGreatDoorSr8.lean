/- Sorting points: the partition. -/
import Derived.Test.YtgidpknckbgmbaaGreatDoorSr7
set_option linter.unusedSimpArgs false
set_option linter.unusedVariables false
namespace Go.Proofs.YtgidpknckbgmbaaGreatDoor
open Go.RowKit Go.Sort

def PartPost (blk S : Nat) (r : Nat × Bool × Array Int) (w : World) (e : Ending) (w' : World) : Prop := e = .returned (.tuple #[.int .i64 r.1, .bool r.2.1]) ∧ RW blk S r.2.2 w' ∧ w.grownBy w' (some blk)

theorem partition_is (d : Array Int) (a b p i j : Nat) (dk : Array Int) (h1 : Sort.swp d a p = dk) (hi : a + 1 = i) (hj : b - 1 = j) : Sort.partition Sort.ltInt d a b p =
    if scanUp (fun x => Sort.ltInt x dk[a]!) dk j i > scanDown (fun x => !Sort.ltInt x dk[a]!) dk (scanUp (fun x => Sort.ltInt x dk[a]!) dk j i) j then (scanDown (fun x => !Sort.ltInt x dk[a]!) dk (scanUp (fun x => Sort.ltInt x dk[a]!) dk j i) j, true, Sort.swp dk (scanDown (fun x => !Sort.ltInt x dk[a]!) dk (scanUp (fun x => Sort.ltInt x dk[a]!) dk j i) j) a)
    else ((partLoop Sort.ltInt a (scanUp (fun x => Sort.ltInt x dk[a]!) dk j i + 1) (scanDown (fun x => !Sort.ltInt x dk[a]!) dk (scanUp (fun x => Sort.ltInt x dk[a]!) dk j i) j - 1) (Sort.swp dk (scanUp (fun x => Sort.ltInt x dk[a]!) dk j i) (scanDown (fun x => !Sort.ltInt x dk[a]!) dk (scanUp (fun x => Sort.ltInt x dk[a]!) dk j i) j))).1, false, Sort.swp (partLoop Sort.ltInt a (scanUp (fun x => Sort.ltInt x dk[a]!) dk j i + 1) (scanDown (fun x => !Sort.ltInt x dk[a]!) dk (scanUp (fun x => Sort.ltInt x dk[a]!) dk j i) j - 1) (Sort.swp dk (scanUp (fun x => Sort.ltInt x dk[a]!) dk j i) (scanDown (fun x => !Sort.ltInt x dk[a]!) dk (scanUp (fun x => Sort.ltInt x dk[a]!) dk j i) j))).2 (partLoop Sort.ltInt a (scanUp (fun x => Sort.ltInt x dk[a]!) dk j i + 1) (scanDown (fun x => !Sort.ltInt x dk[a]!) dk (scanUp (fun x => Sort.ltInt x dk[a]!) dk j i) j - 1) (Sort.swp dk (scanUp (fun x => Sort.ltInt x dk[a]!) dk j i) (scanDown (fun x => !Sort.ltInt x dk[a]!) dk (scanUp (fun x => Sort.ltInt x dk[a]!) dk j i) j))).1 a) := by
  subst h1 hi hj
  rfl

set_option maxHeartbeats 8000000 in
set_option maxRecDepth 100000 in
theorem partition_any (blk S n cap a b p : Nat) (d : Array Int) (w : World) (h : RW blk S d w) (hn : d.size = n) (hap : a ≤ p) (hpb : p < b) (hb : b ≤ n) (hbig : n ≤ 1048577) :
    Calls Tryz.prog 105 #[.slice (some ⟨blk, 0, none⟩) n cap, .int .i64 a, .int .i64 b, .int .i64 p] w (PartPost blk S (Sort.partition Sort.ltInt d a b p) w) := by
  obtain ⟨dk, hdk⟩ : ∃ dk, Sort.swp d a p = dk := ⟨_, rfl⟩
  obtain ⟨i, hi⟩ : ∃ i, a + 1 = i := ⟨_, rfl⟩
  obtain ⟨j, hj⟩ : ∃ j, b - 1 = j := ⟨_, rfl⟩
  have HF0 := partition_is d a b p i j dk hdk hi hj
  generalize Sort.partition Sort.ltInt d a b p = r at HF0 ⊢
  have HF0 := Lib.hid HF0
  go_enter Tryz.func105, Tryz.ntmps105
  have H := Lib.hid h
  have c1 := h.cell (j := a) (by omega)
  have c2 := h.cell (j := p) (by omega)
  have fr := fun t => h.frozen t
  have c5 := (h.set a d[p]! (by omega)).cell (j := p) (by simp; omega)
  generalize Value.int .i32 (d.setIfInBounds a d[p]!)[p]! = v5 at c5
  have hR0 := h.swp a p (by omega) (by omega)
  have R0 := Lib.hid (RW.same hR0 (w' := ((w.setCell ⟨blk, a, none⟩ (.int .i32 d[p]!)).setCell ⟨blk, p, none⟩ (.int .i32 d[a]!)).drew) rfl)
  have G0 := Lib.hid (swp_grown w blk a p (.int .i32 d[p]!) (.int .i32 d[a]!))
  have hs : dk.size = n := by rw [← hdk, size_swp]; exact hn
  clear h hR0
  generalize hd1 : d[a]! = x1 at c1 R0 G0
  generalize hd2 : d[p]! = x2 at c2 c5 R0 G0
  clear hd1 hd2
  go_upto_region 1 with fail
  go_region
  generalize ((w.setCell ⟨blk, a, none⟩ (.int .i32 x2)).setCell ⟨blk, p, none⟩ (.int .i32 x1)).drew = w1 at R0 G0 ⊢
  rw [hdk] at R0
  clear hdk c1 c2 c5 fr H hn
  have hR := R0
  have hg := G0
  clear R0 G0
  have hij : i ≤ j + 1 := by omega
  have hjb : j < b := by omega
  have hai : a < i := by omega
  have hjI : (b : Int) - 1 = (j : Int) := by omega
  have hiI : (a : Int) + 1 = (i : Int) := by omega
  go_wp2
  go_loopw [10] (fun vi w2 => ∃ i2 : Nat, i ≤ i2 ∧ i2 ≤ j + 1 ∧ vi = .int .i64 i2 ∧ Hid (scanUp (fun x => Sort.ltInt x dk[a]!) dk j i = scanUp (fun x => Sort.ltInt x dk[a]!) dk j i2) ∧ Hid (RW blk S dk w2) ∧ Hid (w.grownBy w2 (some blk)))
    (fun vi _ => j + 1 - (intOf vi).toNat)
  case atStart => exact ⟨i, by omega, by omega, by first | rfl | go_num, rfl, hR, hg⟩
  case round =>
    obtain ⟨i2, hi1, hi2, rfl, hSc, hR2, hg2⟩ := hrel
    clear hR hg
    go_upto_region 3 with fail
    go_cut [43] from 168 (fun v wx => v = .bool (decide (i2 ≤ j) && Sort.ltInt dk[i2]! dk[a]!) ∧ RW blk S dk wx ∧ w.grownBy wx (some blk))
    case first =>
      by_cases hij2 : i2 ≤ j
      · have c1 := hR2.out.cell (j := a) (by omega)
        have c2 := hR2.out.cell (j := i2) (by omega)
        have hL := less_any dk[i2]! dk[a]!
        obtain ⟨lb, hlb⟩ : ∃ lb, Sort.ltInt dk[i2]! dk[a]! = lb := ⟨_, rfl⟩
        have HB := Lib.hid (show (decide (i2 ≤ j) && Sort.ltInt dk[i2]! dk[a]!) = lb by rw [decide_eq_true hij2, hlb]; rfl)
        rw [hlb] at hL
        clear hlb
        generalize dk[a]! = x1 at c1 hL
        generalize dk[i2]! = x2 at c2 hL
        go_quiet (first | (go_at_call 103; exact Calls.quiet_of_same (hL _)))
        go_wp2
        go_meet
        exact ⟨by rw [HB.out], hR2.out.drewN nq, grown_drewN hg2.out nq⟩
      · have HB := Lib.hid (show (decide (i2 ≤ j) && Sort.ltInt dk[i2]! dk[a]!) = false by rw [decide_eq_false hij2]; rfl)
        go_quiet (fail)
        go_wp2
        go_meet
        exact ⟨by rw [HB.out], hR2.out.drewN nq, grown_drewN hg2.out nq⟩
    case rest =>
      obtain ⟨rfl, hR3, hg3⟩ := hcut
      have R3 := Lib.hid hR3
      have G3 := Lib.hid hg3
      clear hR3 hg3 hR2 hg2
      cases hbool : (decide (i2 ≤ j) && Sort.ltInt dk[i2]! dk[a]!) with
      | true =>
        have hle : i2 ≤ j := by simp at hbool; exact hbool.1
        have HS := Lib.hid (hSc.out.trans (up_true (p := fun x => Sort.ltInt x dk[a]!) hbool))
        clear hSc hbool
        go_wp2
        go_roundw
        case rel => exact ⟨i2 + 1, by omega, by omega, by go_num, HS.out, R3.out, G3.out⟩
        case measure => simp [intOf]; omega
      | false =>
        have HS := Lib.hid (hSc.out.trans (up_false (p := fun x => Sort.ltInt x dk[a]!) hbool))
        have HP1 := Lib.hid (show i2 ≤ j → Sort.ltInt dk[i2]! dk[a]! = false from fun h => by rw [decide_eq_true h] at hbool; simpa using hbool)
        clear hSc hbool
        go_wp2
        go_loopw [11] (fun vj w3 => ∃ j2 : Nat, j2 ≤ j ∧ i2 ≤ j2 + 1 ∧ vj = .int .i64 j2 ∧ Hid (scanDown (fun x => !Sort.ltInt x dk[a]!) dk i2 j = scanDown (fun x => !Sort.ltInt x dk[a]!) dk i2 j2) ∧ Hid (RW blk S dk w3) ∧ Hid (w.grownBy w3 (some blk)))
          (fun vj _ => (intOf vj).toNat)
        case atStart => exact ⟨j, by omega, by omega, by first | rfl | go_num, rfl, R3, G3⟩
        case round =>
          obtain ⟨j2, hj1, hj2, rfl, hSd, hR4, hg4⟩ := hrel
          clear R3 G3
          go_upto_region 5 with fail
          go_cut [60] from 168 (fun v wx => v = .bool (decide (i2 ≤ j2) && !Sort.ltInt dk[j2]! dk[a]!) ∧ RW blk S dk wx ∧ w.grownBy wx (some blk))
          case first =>
            by_cases hij2 : i2 ≤ j2
            · have c1 := hR4.out.cell (j := a) (by omega)
              have c2 := hR4.out.cell (j := j2) (by omega)
              have hL := less_any dk[j2]! dk[a]!
              obtain ⟨lb, hlb⟩ : ∃ lb, Sort.ltInt dk[j2]! dk[a]! = lb := ⟨_, rfl⟩
              have HB := Lib.hid (show (decide (i2 ≤ j2) && !Sort.ltInt dk[j2]! dk[a]!) = !lb by rw [decide_eq_true hij2, hlb]; rfl)
              rw [hlb] at hL
              clear hlb
              generalize dk[a]! = x1 at c1 hL
              generalize dk[j2]! = x2 at c2 hL
              go_quiet (first | (go_at_call 103; exact Calls.quiet_of_same (hL _)))
              go_wp2
              go_meet
              exact ⟨by rw [HB.out], hR4.out.drewN nq, grown_drewN hg4.out nq⟩
            · have HB := Lib.hid (show (decide (i2 ≤ j2) && !Sort.ltInt dk[j2]! dk[a]!) = false by rw [decide_eq_false hij2]; rfl)
              go_quiet (fail)
              go_wp2
              go_meet
              exact ⟨by rw [HB.out], hR4.out.drewN nq, grown_drewN hg4.out nq⟩
          case rest =>
            obtain ⟨rfl, hR5, hg5⟩ := hcut
            have R5 := Lib.hid hR5
            have G5 := Lib.hid hg5
            clear hR5 hg5 hR4 hg4
            cases hbool : (decide (i2 ≤ j2) && !Sort.ltInt dk[j2]! dk[a]!) with
            | true =>
              have hle : i2 ≤ j2 := by simp at hbool; exact hbool.1
              obtain ⟨hd1, hd2⟩ := dn_true (p := fun x => !Sort.ltInt x dk[a]!) (i := i2) (by omega) hbool
              have HD := Lib.hid (hSd.out.trans hd1)
              clear hSd hbool hd1
              go_wp2
              go_roundw
              case rel => exact ⟨j2 - 1, by omega, by omega, by go_num, HD.out, R5.out, G5.out⟩
              case measure => simp [intOf]; omega
            | false =>
              have HD := Lib.hid (hSd.out.trans (dn_false (p := fun x => !Sort.ltInt x dk[a]!) hbool))
              have hne : i2 ≤ j2 → i2 ≠ j2 := fun h e => by
                rw [decide_eq_true h, ← e, HP1.out (by omega)] at hbool
                simp at hbool
              clear hSd hbool
              have HF0 := HF0.out
              rw [HS.out, HD.out] at HF0
              clear HS HD
              by_cases hgt : i2 > j2
              · rw [if_pos hgt] at HF0
                have HF := Lib.hid HF0
                clear HF0
                have hR5 := R5.out
                have c1 := hR5.cell (j := j2) (by omega)
                have c2 := hR5.cell (j := a) (by omega)
                have fr := fun t => hR5.frozen t
                have c5 := (hR5.set j2 dk[a]! (by omega)).cell (j := a) (by simp; omega)
                generalize Value.int .i32 (dk.setIfInBounds j2 dk[a]!)[a]! = v6 at c5
                have hR6 := hR5.swp j2 a (by omega) (by omega)
                have hg6 := G5.out.trans (swp_grown wc blk j2 a (.int .i32 dk[a]!) (.int .i32 dk[j2]!))
                generalize dk[j2]! = y1 at c1 hR6 hg6
                generalize dk[a]! = y2 at c2 c5 hR6 hg6
                have HR6 := Lib.hid (RW.same hR6 (w' := ((wc.setCell ⟨blk, j2, none⟩ (.int .i32 y2)).setCell ⟨blk, a, none⟩ (.int .i32 y1)).drew) rfl)
                have HG6 := Lib.hid hg6
                clear hR5 hR6 hg6 R5 G5
                go_upto_region 8 with fail
                go_region
                go_wp2
                go_ret2
                exact ⟨by rw [HF.out]; rfl, by rw [HF.out]; exact HR6.out, HG6.out⟩
              · rw [if_neg hgt] at HF0
                obtain ⟨i0, hi0⟩ : ∃ i0, i2 + 1 = i0 := ⟨_, rfl⟩
                obtain ⟨j0, hj0⟩ : ∃ j0, j2 - 1 = j0 := ⟨_, rfl⟩
                obtain ⟨d0, hd0⟩ : ∃ d0, Sort.swp dk i2 j2 = d0 := ⟨_, rfl⟩
                rw [hi0, hj0, hd0] at HF0
                have HF1 := Lib.hid HF0
                clear HF0
                have HF0 := HF1
                clear HF1
                have hR5 := R5.out
                have c1 := hR5.cell (j := i2) (by omega)
                have c2 := hR5.cell (j := j2) (by omega)
                have fr := fun t => hR5.frozen t
                have c5 := (hR5.set i2 dk[j2]! (by omega)).cell (j := j2) (by simp; omega)
                generalize Value.int .i32 (dk.setIfInBounds i2 dk[j2]!)[j2]! = v6 at c5
                have hR6 := hR5.swp i2 j2 (by omega) (by omega)
                have hg6 := G5.out.trans (swp_grown wc blk i2 j2 (.int .i32 dk[j2]!) (.int .i32 dk[i2]!))
                generalize dk[i2]! = y1 at c1 hR6 hg6
                generalize dk[j2]! = y2 at c2 c5 hR6 hg6
                have HR6 := Lib.hid (RW.same hR6 (w' := ((wc.setCell ⟨blk, i2, none⟩ (.int .i32 y2)).setCell ⟨blk, j2, none⟩ (.int .i32 y1)).drew) rfl)
                have HG6 := Lib.hid hg6
                clear hR5 hR6 hg6 R5 G5
                go_upto_region 10 with fail
                go_region
                go_wp2
                go_loopw [10, 11] (fun vi vj wr => ∃ (i j : Nat) (dk : Array Int), a < i ∧ i ≤ j + 1 ∧ j < b ∧ vi = .int .i64 i ∧ vj = .int .i64 j ∧ dk.size = n ∧ Hid (partLoop Sort.ltInt a i0 j0 d0 = partLoop Sort.ltInt a i j dk) ∧ Hid (RW blk S dk wr) ∧ Hid (w.grownBy wr (some blk)))
                  (fun vi vj _ => (intOf vj + 1 - intOf vi).toNat)
                case atStart => exact ⟨i0, j0, d0, by omega, by omega, by omega, by rw [← hi0]; go_num, by rw [← hj0]; go_num, by rw [← hd0, size_swp]; exact hs, rfl, by rw [← hd0]; exact HR6.out, HG6.out⟩
                case round =>
                  clear HR6 HG6 hs hne hd0 hjI hiI c1 c2 c5 fr
                  obtain ⟨i, j, dk, hai, hij, hjb, rfl, rfl, hs, hF, hR, hg⟩ := hrel
                  have HF := Lib.hid (hF.out.trans (partLoop_eq Sort.ltInt a i j dk))
                  clear hF
                  go_wp2
                  go_loopw [10] (fun vi w2 => ∃ i2 : Nat, i ≤ i2 ∧ i2 ≤ j + 1 ∧ vi = .int .i64 i2 ∧ Hid (scanUp (fun x => Sort.ltInt x dk[a]!) dk j i = scanUp (fun x => Sort.ltInt x dk[a]!) dk j i2) ∧ Hid (RW blk S dk w2) ∧ Hid (w.grownBy w2 (some blk)))
                    (fun vi _ => j + 1 - (intOf vi).toNat)
                  case atStart => exact ⟨i, by omega, by omega, rfl, rfl, hR, hg⟩
                  case round =>
                    obtain ⟨i2, hi1, hi2, rfl, hSc, hR2, hg2⟩ := hrel
                    clear hR hg
                    go_upto_region 13 with fail
                    go_cut [112] from 168 (fun v wx => v = .bool (decide (i2 ≤ j) && Sort.ltInt dk[i2]! dk[a]!) ∧ RW blk S dk wx ∧ w.grownBy wx (some blk))
                    case first =>
                      by_cases hij2 : i2 ≤ j
                      · have c1 := hR2.out.cell (j := a) (by omega)
                        have c2 := hR2.out.cell (j := i2) (by omega)
                        have hL := less_any dk[i2]! dk[a]!
                        obtain ⟨lb, hlb⟩ : ∃ lb, Sort.ltInt dk[i2]! dk[a]! = lb := ⟨_, rfl⟩
                        have HB := Lib.hid (show (decide (i2 ≤ j) && Sort.ltInt dk[i2]! dk[a]!) = lb by rw [decide_eq_true hij2, hlb]; rfl)
                        rw [hlb] at hL
                        clear hlb
                        generalize dk[a]! = x1 at c1 hL
                        generalize dk[i2]! = x2 at c2 hL
                        go_quiet (first | (go_at_call 103; exact Calls.quiet_of_same (hL _)))
                        go_wp2
                        go_meet
                        exact ⟨by rw [HB.out], hR2.out.drewN nq, grown_drewN hg2.out nq⟩
                      · have HB := Lib.hid (show (decide (i2 ≤ j) && Sort.ltInt dk[i2]! dk[a]!) = false by rw [decide_eq_false hij2]; rfl)
                        go_quiet (fail)
                        go_wp2
                        go_meet
                        exact ⟨by rw [HB.out], hR2.out.drewN nq, grown_drewN hg2.out nq⟩
                    case rest =>
                      obtain ⟨rfl, hR3, hg3⟩ := hcut
                      have R3 := Lib.hid hR3
                      have G3 := Lib.hid hg3
                      clear hR3 hg3 hR2 hg2
                      cases hbool : (decide (i2 ≤ j) && Sort.ltInt dk[i2]! dk[a]!) with
                      | true =>
                        have hle : i2 ≤ j := by simp at hbool; exact hbool.1
                        have HS := Lib.hid (hSc.out.trans (up_true (p := fun x => Sort.ltInt x dk[a]!) hbool))
                        clear hSc hbool
                        go_wp2
                        go_roundw
                        case rel => exact ⟨i2 + 1, by omega, by omega, by go_num, HS.out, R3.out, G3.out⟩
                        case measure => simp [intOf]; omega
                      | false =>
                        have HS := Lib.hid (hSc.out.trans (up_false (p := fun x => Sort.ltInt x dk[a]!) hbool))
                        have HP1 := Lib.hid (show i2 ≤ j → Sort.ltInt dk[i2]! dk[a]! = false from fun h => by rw [decide_eq_true h] at hbool; simpa using hbool)
                        clear hSc hbool
                        go_wp2
                        go_loopw [11] (fun vj w3 => ∃ j2 : Nat, j2 ≤ j ∧ i2 ≤ j2 + 1 ∧ vj = .int .i64 j2 ∧ Hid (scanDown (fun x => !Sort.ltInt x dk[a]!) dk i2 j = scanDown (fun x => !Sort.ltInt x dk[a]!) dk i2 j2) ∧ Hid (RW blk S dk w3) ∧ Hid (w.grownBy w3 (some blk)))
                          (fun vj _ => (intOf vj).toNat)
                        case atStart => exact ⟨j, by omega, by omega, rfl, rfl, R3, G3⟩
                        case round =>
                          obtain ⟨j2, hj1, hj2, rfl, hSd, hR4, hg4⟩ := hrel
                          clear R3 G3
                          go_upto_region 15 with fail
                          go_cut [129] from 168 (fun v wx => v = .bool (decide (i2 ≤ j2) && !Sort.ltInt dk[j2]! dk[a]!) ∧ RW blk S dk wx ∧ w.grownBy wx (some blk))
                          case first =>
                            by_cases hij2 : i2 ≤ j2
                            · have c1 := hR4.out.cell (j := a) (by omega)
                              have c2 := hR4.out.cell (j := j2) (by omega)
                              have hL := less_any dk[j2]! dk[a]!
                              obtain ⟨lb, hlb⟩ : ∃ lb, Sort.ltInt dk[j2]! dk[a]! = lb := ⟨_, rfl⟩
                              have HB := Lib.hid (show (decide (i2 ≤ j2) && !Sort.ltInt dk[j2]! dk[a]!) = !lb by rw [decide_eq_true hij2, hlb]; rfl)
                              rw [hlb] at hL
                              clear hlb
                              generalize dk[a]! = x1 at c1 hL
                              generalize dk[j2]! = x2 at c2 hL
                              go_quiet (first | (go_at_call 103; exact Calls.quiet_of_same (hL _)))
                              go_wp2
                              go_meet
                              exact ⟨by rw [HB.out], hR4.out.drewN nq, grown_drewN hg4.out nq⟩
                            · have HB := Lib.hid (show (decide (i2 ≤ j2) && !Sort.ltInt dk[j2]! dk[a]!) = false by rw [decide_eq_false hij2]; rfl)
                              go_quiet (fail)
                              go_wp2
                              go_meet
                              exact ⟨by rw [HB.out], hR4.out.drewN nq, grown_drewN hg4.out nq⟩
                          case rest =>
                            obtain ⟨rfl, hR5, hg5⟩ := hcut
                            have R5 := Lib.hid hR5
                            have G5 := Lib.hid hg5
                            clear hR5 hg5 hR4 hg4
                            cases hbool : (decide (i2 ≤ j2) && !Sort.ltInt dk[j2]! dk[a]!) with
                            | true =>
                              have hle : i2 ≤ j2 := by simp at hbool; exact hbool.1
                              obtain ⟨hd1, hd2⟩ := dn_true (p := fun x => !Sort.ltInt x dk[a]!) (i := i2) (by omega) hbool
                              have HD := Lib.hid (hSd.out.trans hd1)
                              clear hSd hbool hd1
                              go_wp2
                              go_roundw
                              case rel => exact ⟨j2 - 1, by omega, by omega, by go_num, HD.out, R5.out, G5.out⟩
                              case measure => simp [intOf]; omega
                            | false =>
                              have HD := Lib.hid (hSd.out.trans (dn_false (p := fun x => !Sort.ltInt x dk[a]!) hbool))
                              have hne : i2 ≤ j2 → i2 ≠ j2 := fun h e => by
                                rw [decide_eq_true h, ← e, HP1.out (by omega)] at hbool
                                simp at hbool
                              clear hSd hbool
                              have hF2 := HF.out
                              rw [HS.out, HD.out] at hF2
                              clear HF HS HD
                              by_cases hgt : i2 > j2
                              · rw [if_pos hgt] at hF2
                                have HF := Lib.hid hF2
                                clear hF2
                                have hR5 := R5.out
                                have c1 := hR5.cell (j := j2) (by omega)
                                have c2 := hR5.cell (j := a) (by omega)
                                have fr := fun t => hR5.frozen t
                                have c5 := (hR5.set j2 dk[a]! (by omega)).cell (j := a) (by simp; omega)
                                generalize Value.int .i32 (dk.setIfInBounds j2 dk[a]!)[a]! = v6 at c5
                                have hR6 := hR5.swp j2 a (by omega) (by omega)
                                have hg6 := G5.out.trans (swp_grown wc blk j2 a (.int .i32 dk[a]!) (.int .i32 dk[j2]!))
                                generalize dk[j2]! = y1 at c1 hR6 hg6
                                generalize dk[a]! = y2 at c2 c5 hR6 hg6
                                have HR6 := Lib.hid (RW.same hR6 (w' := ((wc.setCell ⟨blk, j2, none⟩ (.int .i32 y2)).setCell ⟨blk, a, none⟩ (.int .i32 y1)).drew) rfl)
                                have HG6 := Lib.hid hg6
                                clear hR5 hR6 hg6 R5 G5
                                go_upto_region 21 with fail
                                go_region
                                go_wp2
                                go_ret2
                                exact ⟨by rw [HF0.out, HF.out]; rfl, by rw [HF0.out, HF.out]; exact HR6.out, HG6.out⟩
                              · rw [if_neg hgt] at hF2
                                have HF := Lib.hid hF2
                                clear hF2
                                have hR5 := R5.out
                                have c1 := hR5.cell (j := i2) (by omega)
                                have c2 := hR5.cell (j := j2) (by omega)
                                have fr := fun t => hR5.frozen t
                                have c5 := (hR5.set i2 dk[j2]! (by omega)).cell (j := j2) (by simp; omega)
                                generalize Value.int .i32 (dk.setIfInBounds i2 dk[j2]!)[j2]! = v6 at c5
                                have hR6 := hR5.swp i2 j2 (by omega) (by omega)
                                have hg6 := G5.out.trans (swp_grown wc blk i2 j2 (.int .i32 dk[j2]!) (.int .i32 dk[i2]!))
                                generalize dk[i2]! = y1 at c1 hR6 hg6
                                generalize dk[j2]! = y2 at c2 c5 hR6 hg6
                                have HR6 := Lib.hid (RW.same hR6 (w' := ((wc.setCell ⟨blk, i2, none⟩ (.int .i32 y2)).setCell ⟨blk, j2, none⟩ (.int .i32 y1)).drew) rfl)
                                have HG6 := Lib.hid hg6
                                clear hR5 hR6 hg6 R5 G5
                                go_upto_region 18 with fail
                                go_region
                                go_wp2
                                go_roundw
                                case rel => exact ⟨i2 + 1, j2 - 1, _, by omega, by omega, by omega, by go_num, by go_num, by rw [size_swp]; exact hs, HF.out, HR6.out, HG6.out⟩
                                case measure => simp [intOf]; omega

end Go.Proofs.YtgidpknckbgmbaaGreatDoor
