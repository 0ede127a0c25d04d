/- Sorting points: the recursion. -/
import Derived.Test.YtgidpknckbgmbaaGreatDoorSr10
import Derived.Test.YtgidpknckbgmbaaGreatDoorSr3
import Derived.Test.YtgidpknckbgmbaaGreatDoorSr5
import Derived.Test.YtgidpknckbgmbaaGreatDoorSr6
import Derived.Sort.Walk13a
import Derived.Sort.LotD4
import Derived.Sort.AssemblyPlain
import Derived.Deep.Cut
import Derived.Deep.LoopGhost
set_option linter.unusedSimpArgs false
set_option linter.unusedVariables false
namespace Go.Proofs.YtgidpknckbgmbaaGreatDoor
open Go.RowKit Go.Sort Go.Lib

def AtS (blk S : Nat) (w : World) (d : Array Int) (wr : World) : Prop := RW blk S d wr ∧ w.grownBy wr (some blk)
theorem grown_none {w w' : World} (h : w.grownBy w' none) (r : Option Nat) : w.grownBy w' r := ⟨h.os, h.tape, h.output, h.size, fun k hk _ => h.block k hk (by simp)⟩
theorem AtS.ahead {blk S : Nat} {w wr : World} {d : Array Int} (h : AtS blk S w d wr) (n : Nat) : AtS blk S w d (wr.drewN n) := ⟨h.1.drewN n, grown_drewN h.2 n⟩
theorem AtS.srt {blk S f : Nat} {w wr : World} {d : Array Int} {args : Array Value} {d' : Array Int} (h : AtS blk S w d wr) (hc : Calls Tryz.prog f args wr (SrtPost blk S d' wr)) : Calls Tryz.prog f args wr fun e w' => e = .returned (.tuple #[]) ∧ AtS blk S w d' w' :=
  hc.mono fun _ _ ⟨e, h1, h2⟩ => ⟨e, h1, h.2.trans h2⟩
theorem AtS.boo {blk S f : Nat} {w wr : World} {d : Array Int} {args : Array Value} {r : Array Int × Bool} (h : AtS blk S w d wr) (hc : Calls Tryz.prog f args wr (BoolPost blk S r wr)) : Calls Tryz.prog f args wr fun e w' => e = .returned (.bool r.2) ∧ AtS blk S w r.1 w' :=
  hc.mono fun _ _ ⟨e, h1, h2⟩ => ⟨e, h1, h.2.trans h2⟩
theorem AtS.nat {blk S f : Nat} {w wr : World} {d : Array Int} {args : Array Value} {r : Nat × Array Int} (h : AtS blk S w d wr) (hc : Calls Tryz.prog f args wr (NatPost blk S r wr)) : Calls Tryz.prog f args wr fun e w' => e = .returned (.int .i64 r.1) ∧ AtS blk S w r.2 w' :=
  hc.mono fun _ _ ⟨e, h1, h2⟩ => ⟨e, h1, h.2.trans h2⟩
theorem AtS.prt {blk S f : Nat} {w wr : World} {d : Array Int} {args : Array Value} {r : Nat × Bool × Array Int} (h : AtS blk S w d wr) (hc : Calls Tryz.prog f args wr (PartPost blk S r wr)) : Calls Tryz.prog f args wr fun e w' => e = .returned (.tuple #[.int .i64 r.1, .bool r.2.1]) ∧ AtS blk S w r.2.2 w' :=
  hc.mono fun _ _ ⟨e, h1, h2⟩ => ⟨e, h1, h.2.trans h2⟩
theorem AtS.piv {blk S f : Nat} {w wr : World} {d : Array Int} {args : Array Value} {c : Nat × Hint} (h : AtS blk S w d wr) (hc : Calls Tryz.prog f args wr (PivPost blk S d c wr)) : Calls Tryz.prog f args wr fun e w' => e = .returned (.tuple #[.int .i64 c.1, .int .i64 (hintCode c.2)]) ∧ AtS blk S w d w' :=
  hc.mono fun _ _ ⟨e, h1, h2⟩ => ⟨e, h1, h.2.trans (grown_none h2 _)⟩

theorem break_any (blk S n cap a b : Nat) (d : Array Int) (w : World) (h : RW blk S d w) (hn : d.size = n) (hab : a + 12 < b) (hb : b ≤ n) (hbig : n ≤ 1048577) :
    Calls Tryz.prog 99 #[.slice (some ⟨blk, 0, none⟩) n cap, .int .i64 a, .int .i64 b] w (SrtPost blk S (breakPatterns d a b) w) := by
  obtain ⟨L, rfl⟩ : ∃ L, b = a + L := ⟨b - a, by omega⟩
  exact break_go blk S n cap a L d w h hn (by omega) hb hbig
theorem sw_int : SWO ltInt := swo_ltInt
theorem hintCode_two {h : Hint} (e : hintCode h = 2) : h = .decreasing := by cases h <;> simp [hintCode] at e ⊢
theorem eighth {x y p q : Nat} (h1 : q ≤ p) (h2 : y ≤ x) : decide (((x : Int) - (y : Int)) / 8 ≤ (p : Int) - (q : Int)) = decide (p - q ≥ (x - y) / 8) :=
  decide_eq_decide.2 ⟨fun h => by omega, fun h => by omega⟩

set_option maxHeartbeats 6400000 in
set_option maxRecDepth 1000000 in
theorem pdq_any (blk Sz n cap : Nat) (hbig : n ≤ 1048577) : ∀ (N a b limit : Nat) (d : Array Int) (w : World), b - a < N → RW blk Sz d w → d.size = n → a ≤ b → b ≤ n → limit < 4611686018427387904 → Sort.Below ltInt a b d →
    Calls Tryz.prog 79 #[.slice (some ⟨blk, 0, none⟩) n cap, .int .i64 a, .int .i64 b, .int .i64 limit] w (SrtPost blk Sz (pdq ltInt d a b limit true true) w) := by
  intro N
  induction N with
  | zero => intro _ _ _ _ _ h; exact absurd h (Nat.not_lt_zero _)
  | succ N ih =>
    intro a b limit d w hN hH hn hab hb hlimit hBel0
    go_enter Tryz.func79, Tryz.ntmps79
    go_wp2
    go_loopg [1, 2, 3, 8, 9] (b - a) (fun k s1 s2 s3 s8 s9 wr => ∃ (a' b' lim : Nat) (wb wp : Bool) (dk : Array Int), s1 = .int .i64 a' ∧ s2 = .int .i64 b' ∧ s3 = .int .i64 lim ∧ s8 = .bool wb ∧ s9 = .bool wp ∧
      a' ≤ b' ∧ b' ≤ n ∧ b' - a' ≤ k ∧ k ≤ b - a ∧ lim ≤ limit ∧ dk.size = n ∧ Sort.Below ltInt a' b' dk ∧ AtS blk Sz w dk wr ∧ pdq ltInt dk a' b' lim wb wp = pdq ltInt d a b limit true true)
    case atStart => exact ⟨a, b, limit, true, true, d, rfl, rfl, rfl, rfl, rfl, hab, hb, Nat.le_refl _, Nat.le_refl _, Nat.le_refl _, hn, hBel0, ⟨hH, rfl, rfl, rfl, Nat.le_refl _, fun _ _ _ => rfl⟩, rfl⟩
    case round =>
      obtain ⟨a', b', lim, wb, wp, dk, rfl, rfl, rfl, rfl, rfl, hab', hb', hk, hkN, hlim, hds, hBel, hAt, heq⟩ := hrel
      have A : Aside (pdq ltInt dk a' b' lim wb wp = pdq ltInt d a b limit true true) := heq
      clear heq
      by_cases h12 : b' - a' ≤ 12
      · -- 'if length <= maxInsertion'
        have h12z : (b' : Int) - (a' : Int) ≤ 12 := by omega
        have hc := hAt.srt (insertion_any blk Sz n cap a' b' dk wr hAt.1 hds hab' (by omega) (by omega))
        go_wp2_with (go_at_call 97; refine hc.mono ?_; rintro e w1 ⟨rfl, hw1⟩)
        (try simp only [Exit.inBlock, Exit.then]); refine bodyPost_ret (results_none rfl _ _ _) rfl ?_
        refine ⟨rfl, ?_⟩
        rw [← A.out, pdq_small h12]
        exact hw1
      · have h12z : ¬ ((b' : Int) - (a' : Int) ≤ 12) := by omega
        by_cases hl0 : lim = 0
        · -- 'if limit == 0'
          subst hl0
          have hc := hAt.srt (heap_any blk Sz n cap a' b' dk wr hAt.1 hds (by omega) (by omega) (by omega))
          go_wp2_with (go_at_call 98; refine hc.mono ?_; rintro e w1 ⟨rfl, hw1⟩)
          (try simp only [Exit.inBlock, Exit.then]); refine bodyPost_ret (results_none rfl _ _ _) rfl ?_
          refine ⟨rfl, ?_⟩
          rw [← A.out, pdq_heap h12 rfl]
          exact hw1
        · have hl0z : ¬ ((lim : Int) = 0) := by omega
          obtain ⟨s1, B1, hc1, s2, B2, hpv, s3, B3⟩ := rd_facts (limit := lim) (wb := wb) (wp := wp) sw_int partialInsertionSort_holds reverseRange_holds (show a' < b' by omega) (show b' ≤ dk.size by omega) hBel
          go_upto_if 35 with fail
          go_cut [3] from 19 (fun s3 wc => s3 = .int .i64 (rd ltInt dk a' b' lim wb wp).lim ∧ AtS blk Sz w (rd ltInt dk a' b' lim wb wp).d1 wc)
          case first =>
            cases wb
            · have hc := hAt.srt (break_any blk Sz n cap a' b' dk wr hAt.1 hds (by omega) (by omega) (by omega))
              go_wp2_with (go_at_call 99; refine hc.mono ?_; rintro e w1 ⟨rfl, hw1⟩)
              go_meet
              case rel =>
                refine ⟨?_, hw1⟩
                show Value.int .i64 ((lim : Int) - 1) = Value.int .i64 ((lim - 1 : Nat) : Int)
                congr 1
                omega
            · go_wp2_with fail
              go_meet
              case rel => exact ⟨rfl, hAt⟩
          case rest =>
            obtain ⟨rfl, hAt1⟩ := hcut
            have hc17 := hAt1.piv (pivot_any blk Sz n cap a' b' _ wc hAt1.1 (s1.trans hds) (by omega) (by omega) (by omega))
            rw [show choosePivot ltInt (rd ltInt dk a' b' lim wb wp).d1 a' b' = (rd ltInt dk a' b' lim wb wp).c from rfl] at hc17
            go_upto_if 50 with (go_at_call 100; refine hc17.mono ?_; rintro e w2 ⟨rfl, hw2⟩)
            have hAt2 : AtS blk Sz w (rd ltInt dk a' b' lim wb wp).d1 w2 := hw2
            go_cut [11, 12] from 19 (fun s11 s12 wc => s11 = .int .i64 (rd ltInt dk a' b' lim wb wp).pivot ∧ s12 = .int .i64 (hintCode (rd ltInt dk a' b' lim wb wp).hint) ∧ AtS blk Sz w (rd ltInt dk a' b' lim wb wp).d2 wc)
            case first =>
              by_cases hh : (rd ltInt dk a' b' lim wb wp).c.2 = .decreasing
              · have hcode : hintCode (rd ltInt dk a' b' lim wb wp).c.2 = 2 := by rw [hh]; rfl
                obtain ⟨e2, epv, eht⟩ := rd_dec hh
                have hc18 := hAt2.srt (reverse_any blk Sz n cap a' b' (rd ltInt dk a' b' lim wb wp).d1 w2 hAt2.1 (s1.trans hds) (by omega) (by omega) (by omega))
                go_wp2_with (go_at_call 101; refine hc18.mono ?_; rintro e w3 ⟨rfl, hw3⟩)
                go_meet
                case rel =>
                  refine ⟨?_, by rw [eht]; rfl, by rw [e2]; exact hw3⟩
                  rw [epv]
                  congr 1
                  omega
              · have hcode : ¬ (hintCode (rd ltInt dk a' b' lim wb wp).c.2 = 2) := fun h => hh (hintCode_two h)
                obtain ⟨e2, epv, eht⟩ := rd_not hh
                go_wp2_with fail
                go_meet
                case rel => exact ⟨by rw [epv], by rw [eht], by rw [e2]; exact hAt2⟩
            case rest =>
              obtain ⟨rfl, rfl, hAt3⟩ := hcut
              go_upto_region 15 with fail
              go_cut [12, 68] from 19 (fun s12 s68 wx => s12 = .int .i64 (hintCode (rd ltInt dk a' b' lim wb wp).hint) ∧ s68 = .bool (wb && wp && decide ((rd ltInt dk a' b' lim wb wp).hint = .increasing)) ∧ wx = wc)
              case first =>
                cases wb <;> cases wp <;> cases hh3 : (rd ltInt dk a' b' lim _ _).hint <;>
                  (have hcode3 := congrArg hintCode hh3
                   simp only [hintCode] at hcode3
                   go_wp2_with fail
                   go_meet
                   exact ⟨by simp [hh3, hintCode], by simp [hh3, hintCode], rfl⟩)
              case rest =>
                obtain ⟨rfl, rfl, rfl⟩ := hcut
                go_upto_if 68 with fail
                go_cut [] from 19 (fun wx => (rd ltInt dk a' b' lim wb wp).pi.2 = false ∧ AtS blk Sz w (rd ltInt dk a' b' lim wb wp).pi.1 wx)
                case first =>
                  cases h68 : (wb && wp && decide ((rd ltInt dk a' b' lim wb wp).hint = .increasing))
                  · have epi := rd_pi_no h68
                    go_wp2_with fail
                    go_meet
                    case rel => exact ⟨by rw [epi], by rw [epi]; exact hAt3⟩
                  · have epi := rd_pi_yes h68
                    have hc19 := hAt3.boo (partial_any blk Sz n cap a' b' (rd ltInt dk a' b' lim wb wp).d2 wc hAt3.1 (s2.trans hds) (by omega) (by omega) (by omega))
                    rw [← epi] at hc19
                    go_wp2_with (go_at_call 102; refine hc19.mono ?_; rintro e w4 ⟨rfl, hw4⟩)
                    all_goals first
                      | (have hp2 : (rd ltInt dk a' b' lim wb wp).pi.2 = false := by rw [epi]; assumption
                         go_meet
                         exact ⟨hp2, hw4⟩)
                      | (have hp2 : (rd ltInt dk a' b' lim wb wp).pi.2 = true := by rw [epi]; assumption
                         (try simp only [Exit.inBlock, Exit.then]); refine bodyPost_ret (results_none rfl _ _ _) rfl ?_
                         refine ⟨rfl, ?_⟩
                         rw [← A.out, pdq_done h12 hl0 hp2]
                         exact hw4)
                case rest =>
                  obtain ⟨hp2, hAt5⟩ := hcut
                  go_upto_region 17 with fail
                  go_cut [87] from 19 (fun s87 wx => s87 = .bool (decide (a' > 0) && !ltInt (rd ltInt dk a' b' lim wb wp).pi.1[a' - 1]! (rd ltInt dk a' b' lim wb wp).pi.1[(rd ltInt dk a' b' lim wb wp).pivot]!) ∧ AtS blk Sz w (rd ltInt dk a' b' lim wb wp).pi.1 wx)
                  case first =>
                    rcases Nat.eq_zero_or_pos a' with ha0 | ha0
                    · have ha0z : decide ((a' : Int) > 0) = false := decide_eq_false (by omega)
                      go_big_quiet (fail)
                      go_wp2_with fail
                      go_meet
                      case rel => exact ⟨by simp [ha0], hAt5.ahead nq⟩
                    · have ha0z : decide ((a' : Int) > 0) = true := decide_eq_true (by omega)
                      obtain ⟨q, hq⟩ : ∃ q, a' - 1 = q := ⟨_, rfl⟩
                      have hqz : (a' : Int) - 1 = (q : Int) := by omega
                      have c1 := hAt5.1.cell (j := q) (by omega)
                      have c2 := hAt5.1.cell (j := (rd ltInt dk a' b' lim wb wp).pivot) (by omega)
                      have hL := less_any (rd ltInt dk a' b' lim wb wp).pi.1[q]! (rd ltInt dk a' b' lim wb wp).pi.1[(rd ltInt dk a' b' lim wb wp).pivot]!
                      have HB : Hid (∀ lb, ltInt (rd ltInt dk a' b' lim wb wp).pi.1[q]! (rd ltInt dk a' b' lim wb wp).pi.1[(rd ltInt dk a' b' lim wb wp).pivot]! = lb → (decide (a' > 0) && !ltInt (rd ltInt dk a' b' lim wb wp).pi.1[a' - 1]! (rd ltInt dk a' b' lim wb wp).pi.1[(rd ltInt dk a' b' lim wb wp).pivot]!) = !lb) := fun lb h => by rw [hq, h, decide_eq_true ha0]; rfl
                      obtain ⟨lb, hlb⟩ : ∃ lb, ltInt (rd ltInt dk a' b' lim wb wp).pi.1[q]! (rd ltInt dk a' b' lim wb wp).pi.1[(rd ltInt dk a' b' lim wb wp).pivot]! = lb := ⟨_, rfl⟩
                      have HB := Lib.hid (HB.out lb hlb)
                      rw [hlb] at hL
                      clear hlb
                      generalize (rd ltInt dk a' b' lim wb wp).pi.1[q]! = x1 at c1 hL
                      generalize (rd ltInt dk a' b' lim wb wp).pi.1[(rd ltInt dk a' b' lim wb wp).pivot]! = x2 at c2 hL
                      go_big_quiet (first | (go_at_call 103; exact Calls.quiet_of_same (hL _)))
                      go_wp2_with fail
                      go_meet
                      case rel => exact ⟨by rw [HB.out], hAt5.ahead nq⟩
                  case rest =>
                    obtain ⟨rfl, hAt6⟩ := hcut
                    cases h87 : (decide (a' > 0) && !ltInt (rd ltInt dk a' b' lim wb wp).pi.1[a' - 1]! (rd ltInt dk a' b' lim wb wp).pi.1[(rd ltInt dk a' b' lim wb wp).pivot]!)
                    · -- ████ 'mid, alreadyPartitioned := partitionOrdered(..)'; THE SMALLER SIDE BY A CALL OF ITSELF, the other by the next round
                      obtain ⟨mid, ap, d4, hx⟩ : ∃ mid ap d4, partition ltInt (rd ltInt dk a' b' lim wb wp).pi.1 a' b' (rd ltInt dk a' b' lim wb wp).pivot = (mid, ap, d4) := ⟨(partition ltInt (rd ltInt dk a' b' lim wb wp).pi.1 a' b' (rd ltInt dk a' b' lim wb wp).pivot).1, (partition ltInt (rd ltInt dk a' b' lim wb wp).pi.1 a' b' (rd ltInt dk a' b' lim wb wp).pivot).2.1, (partition ltInt (rd ltInt dk a' b' lim wb wp).pi.1 a' b' (rd ltInt dk a' b' lim wb wp).pivot).2.2, rfl⟩
                      obtain ⟨r1, r2, r3, r4, r5, r6, r7⟩ := round_part sw_int (partition_holds _) hpv.1 hpv.2 (show b' ≤ (rd ltInt dk a' b' lim wb wp).pi.1.size by omega) B3 hx
                      have hc22 := hAt6.prt (partition_any blk Sz n cap a' b' (rd ltInt dk a' b' lim wb wp).pivot (rd ltInt dk a' b' lim wb wp).pi.1 wc hAt6.1 (s3.trans hds) hpv.1 hpv.2 (by omega) (by omega))
                      rw [hx] at hc22
                      have X : Aside (partition ltInt (rd ltInt dk a' b' lim wb wp).pi.1 a' b' (rd ltInt dk a' b' lim wb wp).pivot = (mid, ap, d4)) := hx
                      clear hx
                      go_upto_if 113 with (go_at_call 105; refine hc22.mono ?_; rintro e w7 ⟨rfl, hw7⟩)
                      have hx := X.out
                      have hAt7 : AtS blk Sz w d4 w7 := hw7
                      by_cases h4 : mid - a' < b' - mid
                      · have h4z : (mid : Int) - (a' : Int) < (b' : Int) - (mid : Int) := by omega
                        have hih := hAt7.srt (ih a' mid (rd ltInt dk a' b' lim wb wp).lim d4 w7 (by omega) hAt7.1 (r3.trans (s3.trans hds)) (by omega) (by omega) (Nat.lt_of_le_of_lt (Nat.le_trans rd_lim_le hlim) hlimit) r4)
                        obtain ⟨pL, sL⟩ := pdq_sorts _ sw_int d4 a' mid (rd ltInt dk a' b' lim wb wp).lim true true (by omega) (by omega) r4
                        go_wp2_with (go_at_call 79; refine hih.mono ?_; rintro e w8 ⟨rfl, hw8⟩)
                        go_roundg (b' - (mid + 1))
                        case measure => omega
                        case rel =>
                          refine ⟨mid + 1, b', (rd ltInt dk a' b' lim wb wp).lim, decide (mid - a' ≥ (b' - a') / 8), ap, pdq ltInt d4 a' mid (rd ltInt dk a' b' lim wb wp).lim true true, by simp, rfl, rfl, ?_, rfl, by omega, by omega, Nat.le_refl _, by omega, Nat.le_trans rd_lim_le hlim, by rw [pL.1, r3, s3, hds], (r6 _ pL sL).1, hw8, ?_⟩
                          · exact congrArg Value.bool (eighth (by omega) (by omega))
                          · rw [← A.out, pdq_left h12 hl0 hp2 h87 (by rw [hx]; exact ⟨r1, r2⟩) (by rw [hx]; exact h4), hx]
                      · have h4z : ¬ ((mid : Int) - (a' : Int) < (b' : Int) - (mid : Int)) := by omega
                        have hih := hAt7.srt (ih (mid + 1) b' (rd ltInt dk a' b' lim wb wp).lim d4 w7 (by omega) hAt7.1 (r3.trans (s3.trans hds)) (by omega) (by omega) (Nat.lt_of_le_of_lt (Nat.le_trans rd_lim_le hlim) hlimit) r5)
                        obtain ⟨pL, sL⟩ := pdq_sorts _ sw_int d4 (mid + 1) b' (rd ltInt dk a' b' lim wb wp).lim true true (by omega) (by omega) r5
                        go_wp2_with (go_at_call 79; refine hih.mono ?_; rintro e w8 ⟨rfl, hw8⟩)
                        go_roundg (mid - a')
                        case measure => omega
                        case rel =>
                          refine ⟨a', mid, (rd ltInt dk a' b' lim wb wp).lim, decide (b' - mid ≥ (b' - a') / 8), ap, pdq ltInt d4 (mid + 1) b' (rd ltInt dk a' b' lim wb wp).lim true true, rfl, rfl, rfl, ?_, rfl, by omega, by omega, Nat.le_refl _, by omega, Nat.le_trans rd_lim_le hlim, by rw [pL.1, r3, s3, hds], (r7 _ pL sL).1, hw8, ?_⟩
                          · exact congrArg Value.bool (eighth (by omega) (by omega))
                          · rw [← A.out, pdq_right h12 hl0 hp2 h87 (by rw [hx]; exact ⟨r1, r2⟩) (by rw [hx]; exact h4), hx]
                    · -- ████ 'mid := partitionEqualOrdered(..); a = mid; continue'
                      have h87' := h87
                      simp only [Bool.and_eq_true, decide_eq_true_eq, Bool.not_eq_true'] at h87'
                      obtain ⟨mid, d4, hx⟩ : ∃ mid d4, partitionEqual ltInt (rd ltInt dk a' b' lim wb wp).pi.1 a' b' (rd ltInt dk a' b' lim wb wp).pivot = (mid, d4) := ⟨(partitionEqual ltInt (rd ltInt dk a' b' lim wb wp).pi.1 a' b' (rd ltInt dk a' b' lim wb wp).pivot).1, (partitionEqual ltInt (rd ltInt dk a' b' lim wb wp).pi.1 a' b' (rd ltInt dk a' b' lim wb wp).pivot).2, rfl⟩
                      obtain ⟨r1, r2, r3, r4, _⟩ := round_eq sw_int (partitionEqual_holds _) h87'.1 hpv.1 hpv.2 (show b' ≤ (rd ltInt dk a' b' lim wb wp).pi.1.size by omega) B3 h87'.2 hx
                      have hc21 := hAt6.nat (parteq_any blk Sz n cap a' b' (rd ltInt dk a' b' lim wb wp).pivot (rd ltInt dk a' b' lim wb wp).pi.1 wc hAt6.1 (s3.trans hds) hpv.1 hpv.2 (by omega) (by omega))
                      rw [hx] at hc21
                      have X : Aside (partitionEqual ltInt (rd ltInt dk a' b' lim wb wp).pi.1 a' b' (rd ltInt dk a' b' lim wb wp).pivot = (mid, d4)) := hx
                      clear hx
                      go_wp2_with (go_at_call 104; refine hc21.mono ?_; rintro e w7 ⟨rfl, hw7⟩)
                      go_roundg (b' - mid)
                      case measure => omega
                      case rel =>
                        have hx := X.out
                        exact ⟨mid, b', (rd ltInt dk a' b' lim wb wp).lim, wb, wp, d4, rfl, rfl, rfl, rfl, rfl, r2, hb', Nat.le_refl _, by omega, Nat.le_trans rd_lim_le hlim, by rw [r3, s3, hds], r4, hw7, by rw [← A.out, pdq_eq h12 hl0 hp2 h87 (by rw [hx]; exact ⟨r1, r2⟩), hx]⟩


end Go.Proofs.YtgidpknckbgmbaaGreatDoor
