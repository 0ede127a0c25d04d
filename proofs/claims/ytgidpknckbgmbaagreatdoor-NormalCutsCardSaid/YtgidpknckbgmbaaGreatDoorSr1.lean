/- Sorting points: a row in memory; the insertion sort, the heap sort, a range turned round. -/
import Derived.Test.YtgidpknckbgmbaaGreatDoorDec
import Derived.Sort.AssemblyPlain
import Derived.Sort.Row
import Derived.BigQuiet
import Derived.BigRegion
set_option linter.unusedSimpArgs false
set_option linter.unusedVariables false
namespace Go.Proofs.YtgidpknckbgmbaaGreatDoor
open Go.RowKit Go.Sort

/-- Block blk holds the numbers d, in a row of S cells. -/
def RW (blk S : Nat) (d : Array Int) (w : World) : Prop := ∃ cur, w.heap[blk]? = some (.cells cur 21 (0, 0)) ∧ cur.size = S ∧ d.size ≤ S ∧ ∀ j, j < d.size → cur[j]? = some (.int .i32 d[j]!)
theorem RW.cell {blk S : Nat} {d : Array Int} {w : World} (h : RW blk S d w) {j : Nat} (hj : j < d.size) : w.cell? ⟨blk, j, none⟩ = some (.int .i32 d[j]!) := by
  obtain ⟨cur, h1, _, _, h4⟩ := h
  unfold World.cell?
  rw [h1]
  exact h4 j hj
theorem RW.frozen {blk S : Nat} {d : Array Int} {w : World} (h : RW blk S d w) (j : Nat) : w.frozen? ⟨blk, j, none⟩ = false := by
  obtain ⟨cur, h1, _⟩ := h
  simp [World.frozen?, h1]
theorem RW.lt {blk S : Nat} {d : Array Int} {w : World} (h : RW blk S d w) : blk < w.heap.size := by
  obtain ⟨cur, h1, _⟩ := h
  exact (Array.getElem?_eq_some_iff.1 h1).1
theorem RW.drewN {blk S : Nat} {d : Array Int} {w : World} (h : RW blk S d w) (n : Nat) : RW blk S d (w.drewN n) := h
theorem RW.same {blk S : Nat} {d : Array Int} {w w' : World} (h : RW blk S d w) (hb : w'.heap[blk]? = w.heap[blk]?) : RW blk S d w' := by
  obtain ⟨cur, h1, h2⟩ := h
  exact ⟨cur, hb.trans h1, h2⟩
theorem RW.set {blk S : Nat} {d : Array Int} {w : World} (h : RW blk S d w) (i : Nat) (x : Int) (hi : i < d.size) : RW blk S (d.setIfInBounds i x) (w.setCell ⟨blk, i, none⟩ (.int .i32 x)) := by
  obtain ⟨cur, h1, h2, h3, h4⟩ := h
  refine ⟨cur.setIfInBounds i (.int .i32 x), by simp [World.setCell, Array.getElem?_modify, h1], by simpa using h2, by simpa using h3, fun j hj => ?_⟩
  have hj' : j < d.size := by simpa using hj
  have hc := h4 j hj'
  rw [Array.getElem?_setIfInBounds]
  by_cases e : i = j
  · subst e
    have : i < cur.size := by omega
    rw [if_pos rfl, if_pos this, getElem!_set_same _ _ _ hi]
  · rw [if_neg e, getElem!_set_other _ _ _ _ (fun e2 => e e2.symm)]
    exact hc
theorem RW.swp {blk S : Nat} {d : Array Int} {w : World} (h : RW blk S d w) (i j : Nat) (hi : i < d.size) (hj : j < d.size) :
    RW blk S (Sort.swp d i j) ((w.setCell ⟨blk, i, none⟩ (.int .i32 d[j]!)).setCell ⟨blk, j, none⟩ (.int .i32 d[i]!)) :=
  (h.set i d[j]! hi).set j d[i]! (by simpa using hj)
theorem swp_grown (w : World) (blk i j : Nat) (a b : Value) : w.grownBy ((w.setCell ⟨blk, i, none⟩ a).setCell ⟨blk, j, none⟩ b).drew (some blk) :=
  ⟨rfl, rfl, rfl, by simp, fun k _ hk => by
    have hne : k ≠ blk := fun e => hk (by rw [e])
    exact (Below.heap_setCell _ _ _ _ hne).trans (Below.heap_setCell _ _ _ _ hne)⟩

theorem grown_drewN {w w' : World} {r : Option Nat} (h : w.grownBy w' r) (n : Nat) : w.grownBy (w'.drewN n) r := ⟨h.os, h.tape, h.output, h.size, h.block⟩

theorem less_any (x y : Int) (w : World) : Calls Tryz.prog 103 #[.int .i32 x, .int .i32 y] w fun e w' => e = .returned (.bool (Sort.ltInt x y)) ∧ w' = w := by
  have nan : ∀ x w, Calls Tryz.prog 125 #[.int .i32 x] w fun e w' => e = .returned (.bool false) ∧ w' = w := by
    intro x w
    go_enter Tryz.func125, Tryz.ntmps125
    go_wp2
    go_ret
    exact ⟨by simp, rfl⟩
  go_enter Tryz.func103, Tryz.ntmps103
  go_wp2_with (go_at_call 125; refine (nan _ _).mono ?_; rintro e w' ⟨rfl, rfl⟩)
  go_ret
  exact ⟨by simp [Sort.ltInt], rfl⟩

theorem insInner_stop {d : Array Int} {a j : Nat} (h : ¬ a < j) : insInner Sort.ltInt a j d = d := by
  cases j with
  | zero => rfl
  | succ j => unfold insInner; simp [h]
theorem insInner_step {d : Array Int} {a j : Nat} (h : a < j) : insInner Sort.ltInt a j d = if Sort.ltInt d[j]! d[j - 1]! = true then insInner Sort.ltInt a (j - 1) (Sort.swp d j (j - 1)) else d := by
  obtain ⟨k, rfl⟩ : ∃ k, j = k + 1 := ⟨j - 1, by omega⟩
  conv => lhs; unfold insInner
  simp [h]

def SrtPost (blk S : Nat) (d' : Array Int) (w : World) (e : Ending) (w' : World) : Prop := e = .returned (.tuple #[]) ∧ RW blk S d' w' ∧ w.grownBy w' (some blk)

set_option maxHeartbeats 1000000 in
set_option maxRecDepth 100000 in
theorem insertion_any (blk S n cap a b : Nat) (d : Array Int) (w : World) (h : RW blk S d w) (hn : d.size = n) (hab : a ≤ b) (hb : b ≤ n) (hbig : n ≤ 4611686018427387904) :
    Calls Tryz.prog 97 #[.slice (some ⟨blk, 0, none⟩) n cap, .int .i64 a, .int .i64 b] w (SrtPost blk S (Sort.insertionSort Sort.ltInt d a b) w) := by
  go_enter Tryz.func97, Tryz.ntmps97
  have H := Lib.hid h
  clear h
  go_wp2
  go_loopw [6] (fun i wr => ∃ (k : Nat) (dk : Array Int), a + 1 ≤ k ∧ (k ≤ b ∨ k = a + 1) ∧ i = .int .i64 k ∧ dk.size = n ∧ Hid (Sort.insertionSort Sort.ltInt d a b = insOuter Sort.ltInt a b k dk) ∧ Hid (RW blk S dk wr) ∧ Hid (w.grownBy wr (some blk)))
    (fun i _ => b - (intOf i).toNat)
  case atStart => exact ⟨a + 1, d, by omega, .inr rfl, by go_num, hn, rfl, H.out, World.grownBy.refl _ _⟩
  case round =>
    obtain ⟨k, dk, hk1, hk2, rfl, hs, hF, hR, hg⟩ := hrel
    by_cases hkb : k < b
    · have hF2 : Sort.insertionSort Sort.ltInt d a b = insOuter Sort.ltInt a b (k + 1) (insInner Sort.ltInt a k dk) := by
        rw [hF.out]
        conv => lhs; unfold insOuter
        rw [if_pos hkb]
      have HF := Lib.hid hF2
      clear hF hF2
      go_wp2
      go_loopw [7] (fun v w2 => ∃ (j : Nat) (dj : Array Int), j ≤ k ∧ v = .int .i64 j ∧ dj.size = n ∧ Hid (insInner Sort.ltInt a k dk = insInner Sort.ltInt a j dj) ∧ Hid (RW blk S dj w2) ∧ Hid (w.grownBy w2 (some blk)))
        (fun v _ => (intOf v).toNat)
      case atStart => exact ⟨k, dk, by omega, rfl, hs, rfl, hR, hg⟩
      case round =>
        obtain ⟨j, dj, hj, rfl, hs2, hF2, hR2, hg2⟩ := hrel
        clear hR hg
        by_cases haj : a < j
        · have c1 := hR2.out.cell (j := j) (by omega)
          have c2 := hR2.out.cell (j := j - 1) (by omega)
          have hst := insInner_step (d := dj) haj
          have hL := less_any dj[j]! dj[j - 1]!
          have R3 : ∀ n, RW blk S dj (wr.drewN n) := fun n => hR2.out
          cases hlt : Sort.ltInt dj[j]! dj[j - 1]! with
          | false =>
            rw [hlt] at hL hst
            simp only [Bool.false_eq_true, if_false] at hst
            have HF3 := Lib.hid (hF2.out.trans hst)
            clear hst hF2
            go_wp2_with fail
            go_quiet (first | (go_at_call 103; exact Calls.quiet_of_same (hL _)))
            go_wp2
            go_roundw
            case rel => exact ⟨k + 1, dj, by omega, .inl (by omega), by go_num, hs2, HF.out.trans (congrArg _ HF3.out), hR2.out, grown_drewN hg2.out nq⟩
            case measure => simp [intOf]; omega
          | true =>
            rw [hlt] at hL hst
            simp only [if_true] at hst
            have HF3 := Lib.hid (hF2.out.trans hst)
            clear hst hF2
            go_wp2_with fail
            go_quiet (first | (go_at_call 103; exact Calls.quiet_of_same (hL _)))
            have c3 : (wr.drewN nq).cell? ⟨blk, j, none⟩ = some (.int .i32 dj[j]!) := c1
            have c4 : (wr.drewN nq).cell? ⟨blk, j - 1, none⟩ = some (.int .i32 dj[j - 1]!) := c2
            have hR3 := Lib.hid (hR2.out.drewN nq)
            have hg3 : w.grownBy (wr.drewN nq) (some blk) := grown_drewN hg2.out nq
            have fr := fun i => hR3.out.frozen i
            generalize wr.drewN nq = w3 at c3 c4 hR3 hg3 fr ⊢
            clear c1 c2 hR2 hg2 R3
            have HG3 := Lib.hid hg3
            clear hg3
            go_wp2_with fail
            go_region
            have hR4 := hR3.out.swp j (j - 1) (by omega) (by omega)
            have hg4 : w3.grownBy _ (some blk) := swp_grown w3 blk j (j - 1) (.int .i32 dj[j - 1]!) (.int .i32 dj[j]!)
            go_wp2
            go_roundw
            case rel => exact ⟨j - 1, Sort.swp dj j (j - 1), by omega, by go_num, by rw [size_swp]; exact hs2, HF3.out, hR4, HG3.out.trans hg4⟩
            case measure => simp [intOf]; omega
        · have hst := insInner_stop (d := dj) haj
          have HF3 := Lib.hid (hF2.out.trans hst)
          clear hst hF2
          go_wp2_with fail
          go_quiet (fail)
          go_wp2
          go_roundw
          case rel => exact ⟨k + 1, dj, by omega, .inl (by omega), by go_num, hs2, HF.out.trans (congrArg _ HF3.out), hR2.out, grown_drewN hg2.out nq⟩
          case measure => simp [intOf]; omega
    · have hF2 : Sort.insertionSort Sort.ltInt d a b = dk := by
        rw [hF.out]
        unfold insOuter
        rw [if_neg hkb]
      have HF := Lib.hid hF2
      clear hF hF2
      go_wp2
      go_end0
      exact ⟨rfl, by rw [HF.out]; exact hR.out, hg.out⟩

theorem reverse_step {i j : Nat} {d : Array Int} (h : i < j) : reverseLoop i j d = reverseLoop (i + 1) (j - 1) (Sort.swp d i j) := by
  conv => lhs; unfold reverseLoop
  rw [if_pos h]
theorem reverse_stop {i j : Nat} {d : Array Int} (h : ¬ i < j) : reverseLoop i j d = d := by
  unfold reverseLoop
  rw [if_neg h]

set_option maxHeartbeats 1000000 in
set_option maxRecDepth 100000 in
theorem reverse_any (blk S n cap a b : Nat) (d : Array Int) (w : World) (h : RW blk S d w) (hn : d.size = n) (hab : a < b) (hb : b ≤ n) (hbig : n ≤ 4611686018427387904) :
    Calls Tryz.prog 101 #[.slice (some ⟨blk, 0, none⟩) n cap, .int .i64 a, .int .i64 b] w (SrtPost blk S (Sort.reverseRange d a b) w) := by
  unfold Sort.reverseRange
  go_enter Tryz.func101, Tryz.ntmps101
  have H := Lib.hid h
  clear h
  go_wp2
  go_loopw [6, 7] (fun vi vj wr => ∃ (i j : Nat) (dk : Array Int), a ≤ i ∧ j < b ∧ i ≤ j + 1 ∧ vi = .int .i64 i ∧ vj = .int .i64 j ∧ dk.size = n ∧ Hid (reverseLoop a (b - 1) d = reverseLoop i j dk) ∧ Hid (RW blk S dk wr) ∧ Hid (w.grownBy wr (some blk)))
    (fun vi vj _ => (intOf vj + 1 - intOf vi).toNat)
  case atStart => exact ⟨a, b - 1, d, by omega, by omega, by omega, rfl, by go_num, hn, rfl, H.out, World.grownBy.refl _ _⟩
  case round =>
    obtain ⟨i, j, dk, hi, hj, hij, rfl, rfl, hs, hF, hR, hg⟩ := hrel
    by_cases hlt : i < j
    · have HF := Lib.hid (hF.out.trans (reverse_step hlt))
      have c1 := hR.out.cell (j := i) (by omega)
      have c2 := hR.out.cell (j := j) (by omega)
      have fr := fun t => hR.out.frozen t
      clear hF
      go_wp2_with fail
      go_region
      have hR4 := hR.out.swp i j (by omega) (by omega)
      have hg4 : wr.grownBy _ (some blk) := swp_grown wr blk i j (.int .i32 dk[j]!) (.int .i32 dk[i]!)
      go_wp2
      go_roundw
      case rel => exact ⟨i + 1, j - 1, Sort.swp dk i j, by omega, by omega, by omega, by go_num, by go_num, by rw [size_swp]; exact hs, HF.out, hR4, hg.out.trans hg4⟩
      case measure => simp [intOf]; omega
    · have HF := Lib.hid (hF.out.trans (reverse_stop hlt))
      clear hF
      go_wp2
      go_end0
      exact ⟨rfl, by rw [HF.out]; exact hR.out, hg.out⟩

end Go.Proofs.YtgidpknckbgmbaaGreatDoor
