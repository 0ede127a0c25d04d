/- strings.SplitSeq at a line feed: the lines come one by one. -/
import Derived.Test.YtgidpknckbgmbaaGreatDoorRf
import Derived.Test.YtgidpknckbgmbaaGreatDoorRd
import Derived.Test.YtgidpknckbgmbaaGreatDoorShelf
import Derived.Lib.IndexLaws
set_option linter.unusedSimpArgs false
set_option linter.unusedVariables false
namespace Go.Proofs.YtgidpknckbgmbaaGreatDoor
open Go.RowKit

attribute [local go_sem] Oper.semAt_some

/-- A text's lines. -/
def linesL : List UInt8 → List (List UInt8)
  | [] => [[]]
  | x :: t => if x == 10 then [] :: linesL t else match linesL t with
    | [] => [[x]]
    | y :: ys => (x :: y) :: ys
theorem linesL_ne (l : List UInt8) : linesL l ≠ [] := by
  induction l with
  | nil => simp [linesL]
  | cons x t ih => unfold linesL; split <;> (try split) <;> simp
theorem linesL_none : ∀ {l : List UInt8}, Lib.indexByte l 10 = -1 → linesL l = [l]
  | [], _ => rfl
  | x :: t, h => by
    unfold Lib.indexByte at h
    split at h
    · cases h
    · rename_i hx
      split at h
      · rename_i h1
        have := linesL_none (by simpa using h1)
        unfold linesL
        rw [if_neg (by simpa using hx), this]
      · rename_i h1
        have := Lib.indexByte_ge t 10
        simp at h1
        omega
theorem linesL_cons (x : UInt8) (t : List UInt8) : linesL (x :: t) = if x == 10 then [] :: linesL t else match linesL t with
    | [] => [[x]]
    | y :: ys => (x :: y) :: ys := rfl
theorem linesL_some : ∀ {l : List UInt8} {i : Nat}, Lib.indexByte l 10 = i → linesL l = l.take i :: linesL (l.drop (i + 1)) ∧ i < l.length
  | [], i, h => by simp [Lib.indexByte] at h
  | x :: t, i, h => by
    unfold Lib.indexByte at h
    rw [linesL_cons]
    split at h
    · rename_i hx
      obtain rfl : i = 0 := by omega
      rw [if_pos hx]
      simp
    · rename_i hx
      rw [if_neg (by simpa using hx)]
      split at h
      · omega
      · rename_i h1
        cases i with
        | zero =>
          have := Lib.indexByte_ge t 10
          simp at h1
          omega
        | succ i =>
          obtain ⟨h2, h3⟩ := linesL_some (l := t) (i := i) (by omega)
          rw [h2]
          simp
          omega
def mkB (l : List UInt8) : ByteArray := ⟨l.toArray⟩
def pieces (s : ByteArray) : List ByteArray := (linesL s.data.toList).map mkB
theorem mkB_toList (l : List UInt8) : (mkB l).data.toList = l := by simp [mkB]
theorem extract_take (R : ByteArray) (i : Nat) (_ : i ≤ R.size) : R.extract 0 i = mkB (R.data.toList.take i) := by
  apply ByteArray.ext
  apply Array.toList_inj.1
  simp [mkB]
theorem extract_drop (R : ByteArray) (i : Nat) : (R.extract i R.size).data.toList = R.data.toList.drop i := Lib.extract_to_end R i
theorem pieces_none {R : ByteArray} (h : Lib.indexByte R.data.toList 10 = -1) : pieces R = [R] := by
  unfold pieces
  rw [linesL_none h]
  simp [mkB]
theorem pieces_some {R : ByteArray} {i : Nat} (h : Lib.indexByte R.data.toList 10 = i) : pieces R = R.extract 0 i :: pieces (R.extract (i + 1) R.size) ∧ i < R.size := by
  obtain ⟨h1, h2⟩ := linesL_some h
  have h3 : i < R.size := by rw [Lib.size_eq]; simpa using h2
  unfold pieces
  rw [h1, extract_drop, extract_take _ _ (by omega)]
  exact ⟨rfl, h3⟩

/-- The three boxes of the iterator lie as they lay. -/
def KpS (B1 B2 B3 : Nat) (W W' : World) : Prop := W'.heap[B1]? = W.heap[B1]? ∧ W'.heap[B2]? = W.heap[B2]? ∧ W'.heap[B3]? = W.heap[B3]?
def strAt (W : World) (B : Nat) : Nat := match W.cell? ⟨B, 0, none⟩ with | some (.string s) => s.size | _ => 0

set_option maxRecDepth 100000 in
set_option maxHeartbeats 2000000 in
theorem split_seq (n : Nat) (hn : 1 ≤ n) (s : ByteArray) (B1 B2 B3 : Nat) (w : World) (h1 : IsBlk w B1 9 #[.string ⟨#[10]⟩]) (h2 : IsBlk w B2 9 #[.string s]) (h3 : IsBlk w B3 3 #[.int .i64 0]) (hne : B1 ≠ B2) (hs : s.size ≤ 4611686018427387904) :
    SeqL Fence.wide n Tryz.prog 76 #[.pointer (some ⟨B1, 0, none⟩), .pointer (some ⟨B2, 0, none⟩), .pointer (some ⟨B3, 0, none⟩)] (fun x : ByteArray => #[.string x]) (KpS B1 B2 B3) B2 (pieces s) w := by
  have hf1 : Fence.wide.fn 45 := trivial
  intro l J Jx W hK hsz hJB hJxB hY hJ0
  have b1 : IsBlk W B1 9 #[.string ⟨#[10]⟩] := hK.1.trans h1
  have b2 : IsBlk W B2 9 #[.string s] := hK.2.1.trans h2
  have b3 : IsBlk W B3 3 #[.int .i64 0] := hK.2.2.trans h3
  have hne3 : B3 ≠ B2 := b3.ne_ b2 (by decide)
  refine callsIn_of_wp Tryz.func76 rfl trivial ?_ rfl
  simp only [Tryz.ntmps76, List.size_toArray, List.length_cons, List.length_nil, Nat.reduceAdd, Nat.reduceSub, Array.replicate_succ, Array.replicate_zero, List.push_toArray, List.append_toArray, List.nil_append, List.cons_append]
  have c1 := b1.cell 0
  simp only [List.getElem?_toArray, List.getElem?_cons_zero, List.getElem?_cons_succ] at c1
  have B1H := Lib.hid b1
  have B2H := Lib.hid b2
  have B3H := Lib.hid b3
  have HY := Lib.hid hY
  have HJ0 := Lib.hid hJ0
  have HJB := Lib.hid hJB
  have HJXB := Lib.hid hJxB
  clear hY hJ0 hJB hJxB b1 b2 b3 h1 h2 h3 hK
  gi_wp2
  gi_loopw [7] (fun _ wr => ∃ (k : Nat) (R : ByteArray), J k wr ∧ Hid ((pieces s).drop k = pieces R) ∧ Hid (IsBlk wr B1 9 #[.string ⟨#[10]⟩]) ∧ Hid (IsBlk wr B2 9 #[.string R]) ∧ Hid (IsBlk wr B3 3 #[.int .i64 0]) ∧ R.size ≤ s.size)
    (fun _ wr => strAt wr B2)
  case atStart => exact ⟨0, s, HJ0.out, rfl, B1H.out, B2H.out, B3H.out, Nat.le_refl _⟩
  case round =>
    obtain ⟨k, R, hJ, hP, hb1, hb2, hb3, hRsz⟩ := hrel
    have d1 := hb1.out.cell 0
    have d2 := hb2.out.cell 0
    have d3 := hb3.out.cell 0
    have f2 := hb2.out.frozen 0
    simp only [List.getElem?_toArray, List.getElem?_cons_zero, List.getElem?_cons_succ] at d1 d2 d3
    clear c1
    have hI := fun w => callsIn_wide (n := n - 1).2 (Tryz.strings_Index_one R 10 w)
    rcases Int.lt_or_le (Lib.indexByte R.data.toList 10) 0 with hneg | hpos
    · have hm1 : Lib.indexByte R.data.toList 10 = -1 := by have := Lib.indexByte_ge R.data.toList 10; omega
      have hpx : (pieces s)[k]? = some R ∧ (pieces s).length = k + 1 := by
        have h := hP.out
        rw [pieces_none hm1] at h
        refine ⟨?_, ?_⟩
        · have := congrArg (fun l => l[0]?) h
          simpa [List.getElem?_drop] using this
        · have := congrArg List.length h
          simp at this
          omega
      obtain ⟨hpx, hpl⟩ := hpx
      obtain ⟨fn, tmps, assign, body, hy, hR⟩ := HY.out k R wr hJ hpx
      rw [hm1] at hI
      have HI := Lib.hid hI
      clear hI hm1 hneg hpx
      gi_wp2_with (gi_at_call 45; refine (HI.out _).mono ?_; rintro e w' ⟨rfl, rfl⟩)
      refine hR.mono ?_
      rintro e W3 (⟨rfl, hJ3, hk3⟩ | ⟨rfl, hJx3⟩)
      · gi_wp2
        go_end0
        exact ⟨⟨_, rfl⟩, .inl (by rw [hpl]; exact hJ3)⟩
      · gi_wp2
        go_end0
        exact ⟨⟨_, rfl⟩, .inr ⟨_, hJx3⟩⟩
    · obtain ⟨i, hi⟩ : ∃ i : Nat, Lib.indexByte R.data.toList 10 = i := ⟨(Lib.indexByte R.data.toList 10).toNat, by omega⟩
      obtain ⟨hps, hil⟩ := pieces_some hi
      have hpx : (pieces s)[k]? = some (R.extract 0 i) := by
        have h := hP.out
        rw [hps] at h
        have := congrArg (fun l => l[0]?) h
        simpa [List.getElem?_drop] using this
      have hpd : (pieces s).drop (k + 1) = pieces (R.extract (i + 1) R.size) := by
        have h := hP.out
        rw [hps] at h
        have := congrArg (fun l => l.drop 1) h
        simpa [List.drop_drop] using this
      have hRs : (R.extract (i + 1) R.size).size < R.size := by simp; omega
      have HPD := Lib.hid hpd
      have HRS := Lib.hid hRs
      obtain ⟨fn, tmps, assign, body, hy, hR⟩ := HY.out k _ wr hJ hpx
      rw [hi] at hI
      have HI := Lib.hid hI
      clear hI hpos hpx hi hps hpd hRs
      gi_wp2_with (gi_at_call 45; refine (HI.out _).mono ?_; rintro e w' ⟨rfl, rfl⟩)
      have D2O := Lib.hid d2
      clear d1 d2 d3 f2
      refine hR.mono ?_
      rintro e W3 (⟨rfl, hJ3, hk3⟩ | ⟨rfl, hJx3⟩)
      · have g1 : IsBlk W3 B1 9 #[.string ⟨#[10]⟩] := hk3.1.trans hb1.out
        have g2 : IsBlk W3 B2 9 #[.string R] := hk3.2.1.trans hb2.out
        have g3 : IsBlk W3 B3 3 #[.int .i64 0] := hk3.2.2.trans hb3.out
        have d1 := g1.cell 0
        have d2 := g2.cell 0
        have d3 := g3.cell 0
        have f2 := g2.frozen 0
        simp only [List.getElem?_toArray, List.getElem?_cons_zero, List.getElem?_cons_succ] at d1 d2 d3
        have G1 := Lib.hid g1
        have G2 := Lib.hid g2
        have G3 := Lib.hid g3
        clear g1 g2 g3 hk3 hb1 hb2 hb3
        gi_wp2
        have g2' := G2.out.set_ 0 (.string (R.extract (i + 1) R.size))
        go_roundw
        case rel => exact ⟨k + 1, _, HJB.out _ _ _ hJ3, HPD.out, G1.out.far hne _, g2', G3.out.far hne3 _, Nat.le_trans (Nat.le_of_lt HRS.out) hRsz⟩
        case measure =>
          unfold strAt
          rw [g2'.cell 0, D2O.out]
          exact HRS.out
      · gi_wp2
        refine bodyPost_ret (results_none rfl _ _ _) rfl ?_
        exact ⟨⟨_, rfl⟩, .inr ⟨_, hJx3⟩⟩

end Go.Proofs.YtgidpknckbgmbaaGreatDoor
