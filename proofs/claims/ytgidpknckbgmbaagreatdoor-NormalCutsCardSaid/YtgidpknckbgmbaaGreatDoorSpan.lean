/- props.span, three, points, some: what words say of rows and of points. -/
import Derived.Test.YtgidpknckbgmbaaGreatDoorNum
import Derived.Test.YtgidpknckbgmbaaGreatDoorDec
set_option linter.unusedSimpArgs false
set_option linter.unusedVariables false
namespace Go.Proofs.YtgidpknckbgmbaaGreatDoor
open Go.RowKit

/-- The library's variables that are read lie as the program laid them. -/
structure Gl (w : World) : Prop where
  m : ∃ m, w.cell? ⟨0, 0, none⟩ = some (.int .i64 m)
  es : ∃ t p, w.cell? ⟨1, 0, none⟩ = some (.iface t p)
  er : ∃ t p, w.cell? ⟨2, 0, none⟩ = some (.iface t p)
theorem cell_lt {w : World} {a : Addr} {v : Value} (h : w.cell? a = some v) : a.block < w.heap.size := by
  rcases Nat.lt_or_ge a.block w.heap.size with h' | h'
  · exact h'
  · simp [World.cell?, Array.getElem?_eq_none h'] at h
theorem Gl.below {w w' : World} (h : Gl w) (hb : Below w.heap.size w w') : Gl w' := by
  obtain ⟨⟨m, hm⟩, ⟨t, p, hs⟩, ⟨t', p', hr⟩⟩ := h
  exact ⟨⟨m, (hb.cell (cell_lt hm)).trans hm⟩, ⟨t, p, (hb.cell (cell_lt hs)).trans hs⟩, ⟨t', p', (hb.cell (cell_lt hr)).trans hr⟩⟩

/-- An error of a number. -/
def errV (n : Int) : Value := .iface 48 (.int .i64 n)
def spanG : Option Int → Option Int → Except Int (Int × Int)
  | some lo, some hi => if !isChar lo || !isChar hi then .error 8 else if hi < lo then .error 1 else .ok (lo, hi)
  | _, _ => .error 11
def spanF (l : List UInt8) : Except Int (Int × Int) := spanG (numF (Lib.cut l [46, 46]).1) (numF (if (Lib.cut l [46, 46]).2.2 = true then (Lib.cut l [46, 46]).2.1 else (Lib.cut l [46, 46]).1))
def spanV : Except Int (Int × Int) → Value
  | .ok p => .tuple #[.agg #[.int .i32 p.1, .int .i32 p.2], .nilIface]
  | .error n => .tuple #[.agg #[.int .i32 0, .int .i32 0], errV n]

theorem cut_len (l sep : List UInt8) : (Lib.cut l sep).1.length ≤ l.length ∧ (Lib.cut l sep).2.1.length ≤ l.length := by
  unfold Lib.cut
  split
  · simp; omega
  · simp

theorem numF_nn {l : List UInt8} {x : Int} (h : numF l = some x) : 0 ≤ x ∧ x < 16777216 := by
  unfold numF at h
  split at h
  · rename_i hc
    cases h
    have hb := hexv_lt l hc.2.2 0
    have hpow : 16 ^ l.length ≤ 16 ^ 6 := Nat.pow_le_pow_right (by omega) (by omega)
    omega
  · cases h

/-- Block g of w is just these cells, none of which is frozen. -/
def IsBlk (w : World) (g : Nat) (t : TypeId) (cs : Array Value) : Prop := w.heap[g]? = some (.cells cs t (0, 0))
theorem IsBlk.lt {w : World} {g : Nat} {t : TypeId} {cs : Array Value} (h : IsBlk w g t cs) : g < w.heap.size := (Array.getElem?_eq_some_iff.1 h).1
theorem IsBlk.new (w : World) (t : TypeId) (cs : Array Value) : IsBlk (w.alloc (.cells cs t)) w.heap.size t cs := heap_alloc_new w _
theorem IsBlk.drewN {w : World} {g : Nat} {t : TypeId} {cs : Array Value} (h : IsBlk w g t cs) (n : Nat) : IsBlk (w.drewN n) g t cs := h
theorem IsBlk.below {w w' : World} {g : Nat} {t : TypeId} {cs : Array Value} (h : IsBlk w g t cs) (hb : Below w.heap.size w w') : IsBlk w' g t cs := (hb.block g h.lt).trans h
theorem IsBlk.two {w : World} {g : Nat} {t : TypeId} {a b : Value} (h : IsBlk w g t #[a, b]) : w.cell? ⟨g, 0, none⟩ = some a ∧ w.cell? ⟨g, 1, none⟩ = some b ∧ w.frozen? ⟨g, 0, none⟩ = false ∧ w.frozen? ⟨g, 1, none⟩ = false := by
  unfold IsBlk at h; simp [World.cell?, World.frozen?, h]

set_option maxHeartbeats 400000 in
set_option maxRecDepth 100000 in
theorem span_any (t : ByteArray) (w : World) (hs : t.size ≤ 1048576) (hg : Gl w) :
    Calls Tryz.prog 65 #[.string t] w fun e w' => e = .returned (spanV (spanF t.data.toList)) ∧ Below w.heap.size w w' := by
  obtain ⟨m, hm⟩ := hg.m
  have hlen : t.data.toList.length = t.size := by rw [Lib.size_eq]
  have hC := fun w (hm : w.cell? ⟨0, 0, none⟩ = some (.int .i64 m)) => Tryz.strings_Cut t ⟨#[46, 46]⟩ m w (by omega) hm
  obtain ⟨l1, l2⟩ := cut_len t.data.toList [46, 46]
  unfold spanF
  have e46 : (⟨#[46, 46]⟩ : ByteArray).data.toList = [46, 46] := rfl
  rw [e46] at hC
  generalize Lib.cut t.data.toList [46, 46] = c at *
  obtain ⟨a, b, two⟩ := c
  dsimp only at *
  have l1' : a.length ≤ 1048576 := by omega
  have l2' : b.length ≤ 1048576 := by omega
  have hN := fun (l : List UInt8) (w : World) (hl : l.length ≤ 1048576) => number_any ⟨l.toArray⟩ w (by simpa [ByteArray.size] using hl)
  have HC := Lib.hid hC
  have HN := Lib.hid hN
  have hmA : ∀ o, (w.alloc o).cell? ⟨0, 0, none⟩ = some (.int .i64 m) := fun o => (((Below.refl w.heap.size w).alloc (Nat.le_refl _) o).cell (p := ⟨0, 0, none⟩) (cell_lt hm)).trans hm
  have HM := Lib.hid hmA
  have hb0 : ∀ o, Below w.heap.size w (w.alloc o) := fun o => (Below.refl _ _).alloc (Nat.le_refl _) o
  have HB := Lib.hid hb0
  clear hC hN l1 l2 hlen e46 hmA hb0 hm
  cases two
  · rw [if_neg (by simp)]
    cases hA : numF a with
    | none =>
      have hv : spanV (spanG (none) (none)) = .tuple #[.agg #[.int .i32 0, .int .i32 0], errV 11] := by simp [spanG, spanV]
      rw [hv]
      clear hv
      go_enter Tryz.func65, Tryz.ntmps65
      go_wp2_with (first
        | (go_at_call 30; refine (HC.out _ (HM.out _)).mono ?_; rintro e w1 ⟨rfl, n1, rfl⟩))
      refine (HN.out _ _ (by assumption)).mono ?_
      rintro e w2 ⟨rfl, hb2⟩
      have k2 := ((IsBlk.new w 87 #[.int .i32 0, .int .i32 0]).drewN n1).below hb2
      go_wp2_with fail
      refine (HN.out _ _ (by assumption)).mono ?_
      rintro e w3 ⟨rfl, hb3⟩
      have k3 := k2.below hb3
      have hz3 := k3.lt
      obtain ⟨c0, c1, f0, f1⟩ := k3.two
      go_wp2_with (go_at_call 60; refine (character_any _ _).mono ?_; rintro e w3 ⟨rfl, rfl⟩)
      exact bodyPost_ret (v := .tuple #[.agg #[.int .i32 0, .int .i32 0], errV 11]) (by simp [results, Tryz.results65, go_sem, c0, c1, errV]) rfl ⟨rfl, ((bt (bt (below_drewN (HB.out _) _) hb2) hb3).setCell (p := ⟨w.heap.size, 0, none⟩) (Nat.le_refl _) _).setCell (p := ⟨w.heap.size, 1, none⟩) (Nat.le_refl _) _⟩
    | some lo =>
      cases hch : isChar lo with
      | false =>
        have hv : spanV (spanG (some lo) (some lo)) = .tuple #[.agg #[.int .i32 0, .int .i32 0], errV 8] := by simp [spanG, spanV, hch]
        rw [hv]
        clear hv
        go_enter Tryz.func65, Tryz.ntmps65
        go_wp2_with (first
          | (go_at_call 30; refine (HC.out _ (HM.out _)).mono ?_; rintro e w1 ⟨rfl, n1, rfl⟩))
        refine (HN.out _ _ (by assumption)).mono ?_
        rintro e w2 ⟨rfl, hb2⟩
        have k2 := ((IsBlk.new w 87 #[.int .i32 0, .int .i32 0]).drewN n1).below hb2
        go_wp2_with fail
        refine (HN.out _ _ (by assumption)).mono ?_
        rintro e w3 ⟨rfl, hb3⟩
        have k3 := k2.below hb3
        have hz3 := k3.lt
        obtain ⟨c0, c1, f0, f1⟩ := k3.two
        go_wp2_with (go_at_call 60; refine (character_any _ _).mono ?_; rintro e w3 ⟨rfl, rfl⟩)
        exact bodyPost_ret (v := .tuple #[.agg #[.int .i32 0, .int .i32 0], errV 8]) (by simp [results, Tryz.results65, go_sem, c0, c1, errV]) rfl ⟨rfl, ((bt (bt (below_drewN (HB.out _) _) hb2) hb3).setCell (p := ⟨w.heap.size, 0, none⟩) (Nat.le_refl _) _).setCell (p := ⟨w.heap.size, 1, none⟩) (Nat.le_refl _) _⟩
      | true =>
        have hv : spanV (spanG (some lo) (some lo)) = .tuple #[.agg #[.int .i32 lo, .int .i32 lo], .nilIface] := by simp [spanG, spanV, hch]
        rw [hv]
        clear hv
        go_enter Tryz.func65, Tryz.ntmps65
        go_wp2_with (first
          | (go_at_call 30; refine (HC.out _ (HM.out _)).mono ?_; rintro e w1 ⟨rfl, n1, rfl⟩))
        refine (HN.out _ _ (by assumption)).mono ?_
        rintro e w2 ⟨rfl, hb2⟩
        have k2 := ((IsBlk.new w 87 #[.int .i32 0, .int .i32 0]).drewN n1).below hb2
        go_wp2_with fail
        refine (HN.out _ _ (by assumption)).mono ?_
        rintro e w3 ⟨rfl, hb3⟩
        have k3 := k2.below hb3
        have hz3 := k3.lt
        obtain ⟨c0, c1, f0, f1⟩ := k3.two
        go_wp2_with (go_at_call 60; refine (character_any _ _).mono ?_; rintro e w3 ⟨rfl, rfl⟩)
        exact bodyPost_ret (v := .tuple #[.agg #[.int .i32 lo, .int .i32 lo], .nilIface]) (by simp [results, Tryz.results65, go_sem, c0, c1]) rfl ⟨rfl, ((bt (bt (below_drewN (HB.out _) _) hb2) hb3).setCell (p := ⟨w.heap.size, 0, none⟩) (Nat.le_refl _) _).setCell (p := ⟨w.heap.size, 1, none⟩) (Nat.le_refl _) _⟩
  · rw [if_pos rfl]
    cases hA : numF a with
    | none =>
      have hv : spanV (spanG (none) (numF b)) = .tuple #[.agg #[.int .i32 0, .int .i32 0], errV 11] := by simp [spanG, spanV]
      rw [hv]
      clear hv
      go_enter Tryz.func65, Tryz.ntmps65
      go_wp2_with (first
        | (go_at_call 30; refine (HC.out _ (HM.out _)).mono ?_; rintro e w1 ⟨rfl, n1, rfl⟩))
      refine (HN.out _ _ (by assumption)).mono ?_
      rintro e w2 ⟨rfl, hb2⟩
      have k2 := ((IsBlk.new w 87 #[.int .i32 0, .int .i32 0]).drewN n1).below hb2
      go_wp2_with fail
      refine (HN.out _ _ (by assumption)).mono ?_
      rintro e w3 ⟨rfl, hb3⟩
      have k3 := k2.below hb3
      have hz3 := k3.lt
      obtain ⟨c0, c1, f0, f1⟩ := k3.two
      go_wp2_with (go_at_call 60; refine (character_any _ _).mono ?_; rintro e w3 ⟨rfl, rfl⟩)
      exact bodyPost_ret (v := .tuple #[.agg #[.int .i32 0, .int .i32 0], errV 11]) (by simp [results, Tryz.results65, go_sem, c0, c1, errV]) rfl ⟨rfl, ((bt (bt (below_drewN (HB.out _) _) hb2) hb3).setCell (p := ⟨w.heap.size, 0, none⟩) (Nat.le_refl _) _).setCell (p := ⟨w.heap.size, 1, none⟩) (Nat.le_refl _) _⟩
    | some lo =>
      cases hB : numF b with
      | none =>
        have hv : spanV (spanG (some lo) (none)) = .tuple #[.agg #[.int .i32 0, .int .i32 0], errV 11] := by simp [spanG, spanV]
        rw [hv]
        clear hv
        go_enter Tryz.func65, Tryz.ntmps65
        go_wp2_with (first
          | (go_at_call 30; refine (HC.out _ (HM.out _)).mono ?_; rintro e w1 ⟨rfl, n1, rfl⟩))
        refine (HN.out _ _ (by assumption)).mono ?_
        rintro e w2 ⟨rfl, hb2⟩
        have k2 := ((IsBlk.new w 87 #[.int .i32 0, .int .i32 0]).drewN n1).below hb2
        go_wp2_with fail
        refine (HN.out _ _ (by assumption)).mono ?_
        rintro e w3 ⟨rfl, hb3⟩
        have k3 := k2.below hb3
        have hz3 := k3.lt
        obtain ⟨c0, c1, f0, f1⟩ := k3.two
        go_wp2_with (go_at_call 60; refine (character_any _ _).mono ?_; rintro e w3 ⟨rfl, rfl⟩)
        exact bodyPost_ret (v := .tuple #[.agg #[.int .i32 0, .int .i32 0], errV 11]) (by simp [results, Tryz.results65, go_sem, c0, c1, errV]) rfl ⟨rfl, ((bt (bt (below_drewN (HB.out _) _) hb2) hb3).setCell (p := ⟨w.heap.size, 0, none⟩) (Nat.le_refl _) _).setCell (p := ⟨w.heap.size, 1, none⟩) (Nat.le_refl _) _⟩
      | some hi =>
        cases hch : isChar lo with
        | false =>
          have hv : spanV (spanG (some lo) (some hi)) = .tuple #[.agg #[.int .i32 0, .int .i32 0], errV 8] := by simp [spanG, spanV, hch]
          rw [hv]
          clear hv
          go_enter Tryz.func65, Tryz.ntmps65
          go_wp2_with (first
            | (go_at_call 30; refine (HC.out _ (HM.out _)).mono ?_; rintro e w1 ⟨rfl, n1, rfl⟩))
          refine (HN.out _ _ (by assumption)).mono ?_
          rintro e w2 ⟨rfl, hb2⟩
          have k2 := ((IsBlk.new w 87 #[.int .i32 0, .int .i32 0]).drewN n1).below hb2
          go_wp2_with fail
          refine (HN.out _ _ (by assumption)).mono ?_
          rintro e w3 ⟨rfl, hb3⟩
          have k3 := k2.below hb3
          have hz3 := k3.lt
          obtain ⟨c0, c1, f0, f1⟩ := k3.two
          go_wp2_with (go_at_call 60; refine (character_any _ _).mono ?_; rintro e w3 ⟨rfl, rfl⟩)
          exact bodyPost_ret (v := .tuple #[.agg #[.int .i32 0, .int .i32 0], errV 8]) (by simp [results, Tryz.results65, go_sem, c0, c1, errV]) rfl ⟨rfl, ((bt (bt (below_drewN (HB.out _) _) hb2) hb3).setCell (p := ⟨w.heap.size, 0, none⟩) (Nat.le_refl _) _).setCell (p := ⟨w.heap.size, 1, none⟩) (Nat.le_refl _) _⟩
        | true =>
          cases hch2 : isChar hi with
          | false =>
            have hv : spanV (spanG (some lo) (some hi)) = .tuple #[.agg #[.int .i32 0, .int .i32 0], errV 8] := by simp [spanG, spanV, hch, hch2]
            rw [hv]
            clear hv
            go_enter Tryz.func65, Tryz.ntmps65
            go_wp2_with (first
              | (go_at_call 30; refine (HC.out _ (HM.out _)).mono ?_; rintro e w1 ⟨rfl, n1, rfl⟩))
            refine (HN.out _ _ (by assumption)).mono ?_
            rintro e w2 ⟨rfl, hb2⟩
            have k2 := ((IsBlk.new w 87 #[.int .i32 0, .int .i32 0]).drewN n1).below hb2
            go_wp2_with fail
            refine (HN.out _ _ (by assumption)).mono ?_
            rintro e w3 ⟨rfl, hb3⟩
            have k3 := k2.below hb3
            have hz3 := k3.lt
            obtain ⟨c0, c1, f0, f1⟩ := k3.two
            go_wp2_with (go_at_call 60; refine (character_any _ _).mono ?_; rintro e w3 ⟨rfl, rfl⟩)
            exact bodyPost_ret (v := .tuple #[.agg #[.int .i32 0, .int .i32 0], errV 8]) (by simp [results, Tryz.results65, go_sem, c0, c1, errV]) rfl ⟨rfl, ((bt (bt (below_drewN (HB.out _) _) hb2) hb3).setCell (p := ⟨w.heap.size, 0, none⟩) (Nat.le_refl _) _).setCell (p := ⟨w.heap.size, 1, none⟩) (Nat.le_refl _) _⟩
          | true =>
            by_cases hlt : hi < lo
            · have hv : spanV (spanG (some lo) (some hi)) = .tuple #[.agg #[.int .i32 0, .int .i32 0], errV 1] := by simp [spanG, spanV, hch, hch2, hlt]
              rw [hv]
              clear hv
              go_enter Tryz.func65, Tryz.ntmps65
              go_wp2_with (first
                | (go_at_call 30; refine (HC.out _ (HM.out _)).mono ?_; rintro e w1 ⟨rfl, n1, rfl⟩))
              refine (HN.out _ _ (by assumption)).mono ?_
              rintro e w2 ⟨rfl, hb2⟩
              have k2 := ((IsBlk.new w 87 #[.int .i32 0, .int .i32 0]).drewN n1).below hb2
              go_wp2_with fail
              refine (HN.out _ _ (by assumption)).mono ?_
              rintro e w3 ⟨rfl, hb3⟩
              have k3 := k2.below hb3
              have hz3 := k3.lt
              obtain ⟨c0, c1, f0, f1⟩ := k3.two
              go_wp2_with (go_at_call 60; refine (character_any _ _).mono ?_; rintro e w3 ⟨rfl, rfl⟩)
              exact bodyPost_ret (v := .tuple #[.agg #[.int .i32 0, .int .i32 0], errV 1]) (by simp [results, Tryz.results65, go_sem, c0, c1, errV]) rfl ⟨rfl, ((bt (bt (below_drewN (HB.out _) _) hb2) hb3).setCell (p := ⟨w.heap.size, 0, none⟩) (Nat.le_refl _) _).setCell (p := ⟨w.heap.size, 1, none⟩) (Nat.le_refl _) _⟩
            · have hlt' : lo ≤ hi := by omega
              have hv : spanV (spanG (some lo) (some hi)) = .tuple #[.agg #[.int .i32 lo, .int .i32 hi], .nilIface] := by simp [spanG, spanV, hch, hch2, hlt]
              rw [hv]
              clear hv
              go_enter Tryz.func65, Tryz.ntmps65
              go_wp2_with (first
                | (go_at_call 30; refine (HC.out _ (HM.out _)).mono ?_; rintro e w1 ⟨rfl, n1, rfl⟩))
              refine (HN.out _ _ (by assumption)).mono ?_
              rintro e w2 ⟨rfl, hb2⟩
              have k2 := ((IsBlk.new w 87 #[.int .i32 0, .int .i32 0]).drewN n1).below hb2
              go_wp2_with fail
              refine (HN.out _ _ (by assumption)).mono ?_
              rintro e w3 ⟨rfl, hb3⟩
              have k3 := k2.below hb3
              have hz3 := k3.lt
              obtain ⟨c0, c1, f0, f1⟩ := k3.two
              go_wp2_with (go_at_call 60; refine (character_any _ _).mono ?_; rintro e w3 ⟨rfl, rfl⟩)
              exact bodyPost_ret (v := .tuple #[.agg #[.int .i32 lo, .int .i32 hi], .nilIface]) (by simp [results, Tryz.results65, go_sem, c0, c1]) rfl ⟨rfl, ((bt (bt (below_drewN (HB.out _) _) hb2) hb3).setCell (p := ⟨w.heap.size, 0, none⟩) (Nat.le_refl _) _).setCell (p := ⟨w.heap.size, 1, none⟩) (Nat.le_refl _) _⟩

end Go.Proofs.YtgidpknckbgmbaaGreatDoor
