/- props.Parse: the walk. -/
import Derived.Test.YtgidpknckbgmbaaGreatDoorPrs6
import Derived.Sort.CutIn
set_option linter.unusedSimpArgs false
set_option linter.unusedVariables false
namespace Go.Proofs.YtgidpknckbgmbaaGreatDoor
open Go.RowKit Go.MapKept Go.ChangeMaps
open Go.Maps (Keyed)

attribute [local go_sem] Oper.semAt_some

section
variable {α : Type} [DecidableEq α] {P : Program} {k t e : TypeId} {enc : α → Value} {F : Fence} {nF : Nat}
/-- An entry of a map's literal. -/
theorem wpListIn_insert_is (w : World) {ops : Array Oper} {rest : List Oper} {o : Oper} {ac : Act} {Q : Exit → Act → World → Prop}
    (hg : o.guard = none) (m x v : Operand) (t : TypeId) (hop : o.op = Op.insert t m x v) (k e : TypeId) (K : Keyed P k) (ht : P.underlying t = some (.map k e))
    (enc : α → Value) (hinj : ∀ x y, enc x = enc y → x = y) (b : Nat) (kv : List (α × Value)) (hm : ac.eval m = .map (some b)) (hown : MapIs P k enc w b kv) (a : α) (val : Value) (kl : Lit) (hx : ac.eval x = enc a) (hv : ac.eval v = val) (hkey : keyOf P k (enc a) = some kl)
    (hK : ∀ w', MapIs P k enc w' b (putKV kv a val) → w.mapTurned w' b → wpListIn F nF P ops Q rest (ac.put o.dst undef) w') : wpListIn F nF P ops Q (o :: rest) ac w := by
  refine wpListIn_plain hg fun K' hK' => ?_
  obtain ⟨w', hrun, r1, r2⟩ := hown.store K ht hinj a hkey val
  unfold Oper.wpIn
  refine ⟨by simp [Oper.about, hop], ?_⟩
  rw [Oper.semAt_plain F _ _ (by rw [hop]; intro c hc'; cases hc')]
  simp [execOp, hop, hm, hx, hv, hrun, Result.andThen]
  exact hK' _ _ (hK w' r1 r2)
end

theorem last_byte (s : ByteArray) (h : 0 < s.size) : s.data.toList.getLast? = some s[s.size - 1] := by
  rw [List.getLast?_eq_getElem?]
  have := Lib.data_getElem? s (s.size - 1) (by omega)
  rw [← this, Lib.size_eq]

def incL (s : ByteArray) : Bool := if s.size = 0 then false else !(s.data.toList.getLast? == some 10)
theorem countL_eq (s : ByteArray) : countL s = (Lib.countByte s.data.toList 10 : Int) + (if incL s then 1 else 0) := by
  unfold countL incL
  by_cases h : s.size = 0
  · simp [h]
  · simp only [h, if_false]
    by_cases h2 : s.data.toList.getLast? = some 10
    · simp [h2]
    · simp [h2]
theorem errV_is (n : Int) : errV n = .iface 48 (.int .i64 n) := rfl
theorem incL_pos (s : ByteArray) (h : 0 < s.size) : incL s = ((s[s.size - 1].toNat : Int) != 10) := by
  unfold incL
  rw [if_neg (by omega), last_byte s h, Bool.eq_iff_iff]
  simp [← UInt8.toNat_inj]
  omega

theorem count_le (s : ByteArray) : Lib.countByte s.data.toList 10 ≤ s.size := by
  unfold Lib.countByte
  rw [Lib.size_eq]
  simpa using List.count_le_length (a := (10 : UInt8)) (l := s.data.toList)

theorem two_res (w : World) (a b : Value) : ((w.alloc (.cells #[a] 23)).alloc (.cells #[b] 25)).cell? ⟨w.heap.size, 0, none⟩ = some a ∧ ((w.alloc (.cells #[a] 23)).alloc (.cells #[b] 25)).cell? ⟨w.heap.size + 1, 0, none⟩ = some b :=
  ⟨((IsBlk.new w 23 #[a]).alloc _).cell 0, by
    have := (IsBlk.new (w.alloc (.cells #[a] 23)) 25 #[b]).cell 0
    rwa [World.size_alloc] at this⟩

theorem putKV_mem {α β : Type} [DecidableEq α] : ∀ (l : List (α × β)) (a : α) (v : β), ∀ p ∈ putKV l a v, p = (a, v) ∨ p ∈ l
  | [], a, v, p, hp => by simp [putKV] at hp; exact .inl hp
  | (x, u) :: l, a, v, p, hp => by
    by_cases h : x = a
    · simp [putKV, h] at hp
      rcases hp with rfl | hp
      · exact .inl rfl
      · exact .inr (by simp [hp])
    · simp [putKV, h] at hp
      rcases hp with rfl | hp
      · exact .inr (by simp)
      · rcases putKV_mem l a v p hp with e | e
        · exact .inl e
        · exact .inr (by simp [e])
theorem stepF_pur' {q : PP} {ln : KN} {line : Int} {ws : List ByteArray} {p : PP × KN} (h : stepF q ln line ws = .ok p) (h1 : ∀ x ∈ q.decomps, x.2.length ≤ 8 ∧ ∀ y ∈ x.2, isChar y = true) (h2 : ∀ x ∈ ln, isChar x.1 = true) : (∀ x ∈ p.1.decomps, x.2.length ≤ 8 ∧ ∀ y ∈ x.2, isChar y = true) ∧ (∀ x ∈ p.2, isChar x.1 = true) ∧ p.2.length ≤ ln.length + 1 := by
  unfold stepF at h
  cases ws with
  | nil => cases h; exact ⟨h1, h2, Nat.le_succ _⟩
  | cons w ws =>
    simp only at h
    split at h
    · unfold clsR at h
      split at h
      · cases h; exact ⟨h1, h2, by simp only; omega⟩
      · cases h
    · split at h
      · unfold kndR at h
        split at h
        · cases h; exact ⟨h1, h2, by simp only; omega⟩
        · cases h
      · split at h
        · unfold foldF at h
          split at h
          · cases h
          · cases h
          · split at h
            · cases h
            · cases h; exact ⟨h1, h2, by simp only; omega⟩
        · split at h
          · unfold dcpF at h
            split at h
            · cases h
            · cases h
            · rename_i r t e
              obtain ⟨l1, l2, l3⟩ := someF_ok e
              split at h
              · cases h
              · split at h
                · cases h
                · cases h
                  refine ⟨fun x hx => ?_, fun x hx => ?_, putKV_length _ _ _⟩
                  · unfold decQ at hx
                    rcases putKV_mem _ _ _ _ hx with rfl | hx
                    · exact ⟨by simp at l2; simp only; omega, fun y hy => l3 y (by simp [hy])⟩
                    · exact h1 x hx
                  · rcases putKV_mem _ _ _ _ hx with rfl | hx
                    · exact l3 r (by simp)
                    · exact h2 x hx
          · cases h
theorem linesF_pur : ∀ (xs : List ByteArray) (line : Int) (q : PP) (ln : KN) (p : PP × KN), linesF xs line q ln = .ok p → (∀ x ∈ q.decomps, x.2.length ≤ 8 ∧ ∀ y ∈ x.2, isChar y = true) → (∀ x ∈ ln, isChar x.1 = true) →
    (∀ x ∈ p.1.decomps, x.2.length ≤ 8 ∧ ∀ y ∈ x.2, isChar y = true) ∧ (∀ x ∈ p.2, isChar x.1 = true) ∧ p.2.length ≤ ln.length + xs.length
  | [], line, q, ln, p, h, h1, h2 => by cases h; exact ⟨h1, h2, by simp⟩
  | x :: xs, line, q, ln, p, h, h1, h2 => by
    unfold linesF at h
    split at h
    · cases h
    · rename_i p' e
      obtain ⟨g1, g2, g3⟩ := stepF_pur' e h1 h2
      obtain ⟨k1, k2, k3⟩ := linesF_pur xs (line + 1) p'.1 p'.2 p h g1 g2
      exact ⟨k1, k2, by simp; omega⟩
theorem linesF_ok {s : ByteArray} {q : PP} {ln : KN} (h : linesF (pieces s) 0 PP.none_ [] = .ok (q, ln)) : Dec32 q ∧ Dec8 q ∧ (∀ p ∈ ln, I32 p.1) ∧ ln.length ≤ (pieces s).length := by
  obtain ⟨h1, h2, h3⟩ := linesF_pur _ _ _ _ _ h (by simp [PP.none_]) (by simp)
  refine ⟨fun r x hx => ?_, fun r => ?_, fun p hp => isChar_i32 (h2 p hp), by simpa using h3⟩
  · unfold PP.dec at hx
    split at hx
    · exact (sylD_jamo (by assumption) x hx).2
    · cases hg : getKV q.decomps r with
      | none => rw [hg] at hx; simp at hx
      | some l => rw [hg] at hx; exact isChar_i32 ((h1 _ (getKV_mem hg)).2 x (by simpa using hx))
  · unfold PP.dec
    split
    · unfold sylD; split <;> simp
    · cases hg : getKV q.decomps r with
      | none => simp
      | some l => simpa using (h1 _ (getKV_mem hg)).1

theorem ret_two {w W2 : World} {D r2 : Nat} {a b : Value} (c2 : IsBlk W2 r2 23 #[a]) (c3 : IsBlk W2 (r2 + 1) 25 #[b]) (hK : W2.heap[D]? = some (.deferred (some []))) (hD : r2 + 1 < D) (hl : Below r2 w W2) (v u : Value) :
    ((W2.setCell ⟨r2, 0, none⟩ v).setCell ⟨r2 + 1, 0, none⟩ u).heap[D]? = some (.deferred (some [])) ∧
    (((W2.setCell ⟨r2, 0, none⟩ v).setCell ⟨r2 + 1, 0, none⟩ u).putObj D (.deferred none)).cell? ⟨r2, 0, none⟩ = some v ∧ (((W2.setCell ⟨r2, 0, none⟩ v).setCell ⟨r2 + 1, 0, none⟩ u).putObj D (.deferred none)).cell? ⟨r2 + 1, 0, none⟩ = some u ∧
    Below r2 w (((W2.setCell ⟨r2, 0, none⟩ v).setCell ⟨r2 + 1, 0, none⟩ u).putObj D (.deferred none)) := by
  have hK2 : ((W2.setCell ⟨r2, 0, none⟩ v).setCell ⟨r2 + 1, 0, none⟩ u).heap[D]? = some (.deferred (some [])) := by
    rw [Below.heap_setCell _ _ _ _ (by simp only; omega), Below.heap_setCell _ _ _ _ (by simp only; omega)]
    exact hK
  have k2 := ((c2.set_ 0 v).far (p := ⟨r2 + 1, 0, none⟩) (by simp) u).cell 0
  have k3 := ((c3.far (p := ⟨r2, 0, none⟩) (by simp) v).set_ 0 u).cell 0
  refine ⟨hK2, cell_kept k2 (grownBy_putObj' _ D (.deferred none)) (fun r e => by cases e; exact ⟨_, hK2, rfl⟩), cell_kept k3 (grownBy_putObj' _ D (.deferred none)) (fun r e => by cases e; exact ⟨_, hK2, rfl⟩), ?_⟩
  refine ((hl.setCell (p := ⟨r2, 0, none⟩) (Nat.le_refl _) v).setCell (p := ⟨r2 + 1, 0, none⟩) (Nat.le_succ _) u).grown (grownBy_putObj' _ D _) ?_ (fun r e => by cases e; omega)
  have h := c3.lt
  have e : ((W2.setCell ⟨r2, 0, none⟩ v).setCell ⟨r2 + 1, 0, none⟩ u).heap.size = W2.heap.size := by simp
  omega
theorem ret_rd {W2 : World} {D r2 n0 : Nat} {a b : Value} {q : PP} {ln : KN} {line : Int} (R : Rd W2 n0 (blks0 n0) q ln line) (c2 : IsBlk W2 r2 23 #[a]) (c3 : IsBlk W2 (r2 + 1) 25 #[b]) (hK : W2.heap[D]? = some (.deferred (some []))) (hn : r2 + 1 < n0) (hD : r2 + 1 < D) (v u : Value) :
    PropsAt (((W2.setCell ⟨r2, 0, none⟩ v).setCell ⟨r2 + 1, 0, none⟩ u).putObj D (.deferred none)) (n0 + 1 + 1 + 1) q := by
  have R1 : Rd (W2.setCell ⟨r2, 0, none⟩ v) n0 (blks0 n0) q ln line := R.turn (grownBy_setCell' W2 r2 v) (fun r e => by
    cases e
    refine ⟨by unfold blks0; simp only; omega, fun cs t fr hh => ?_⟩
    rw [show W2.heap[r2]? = _ from c2] at hh
    cases hh
    decide)
  have c3' := c3.far (p := ⟨r2, 0, none⟩) (by simp) v
  have R2 : Rd ((W2.setCell ⟨r2, 0, none⟩ v).setCell ⟨r2 + 1, 0, none⟩ u) n0 (blks0 n0) q ln line := R1.turn (grownBy_setCell' _ (r2 + 1) u) (fun r e => by
    cases e
    refine ⟨by unfold blks0; simp only; omega, fun cs t fr hh => ?_⟩
    rw [show (W2.setCell ⟨r2, 0, none⟩ v).heap[r2 + 1]? = _ from c3'] at hh
    cases hh
    decide)
  have hK2 : ((W2.setCell ⟨r2, 0, none⟩ v).setCell ⟨r2 + 1, 0, none⟩ u).heap[D]? = some (.deferred (some [])) := by
    rw [Below.heap_setCell _ _ _ _ (by simp only; omega), Below.heap_setCell _ _ _ _ (by simp only; omega)]
    exact hK
  have hm : ∀ b, IsMapBlk ((W2.setCell ⟨r2, 0, none⟩ v).setCell ⟨r2 + 1, 0, none⟩ u) b → D ≠ b := fun b hb e => by
    subst e
    obtain ⟨es, c, h⟩ := hb
    rw [hK2] at h
    cases h
  have R3 : Rd (((W2.setCell ⟨r2, 0, none⟩ v).setCell ⟨r2 + 1, 0, none⟩ u).putObj D (.deferred none)) n0 (blks0 n0) q ln line := R2.turn (grownBy_putObj' _ D _) (fun r e => by
    cases e
    refine ⟨⟨hm _ R2.folds.blk, hm _ R2.decs.blk, hm _ (MapIs.blk R2.pairs), hm _ (MapIs.blk R2.lines)⟩, fun cs t fr hh => ?_⟩
    rw [hK2] at hh
    cases hh)
  exact R3.props

def ParsePost (w : World) (s : ByteArray) (e : Ending) (w' : World) : Prop :=
  Below w.heap.size w w' ∧ match parseF s with
    | .ok q => ∃ bp, e = .returned (.tuple #[.pointer (some ⟨bp, 0, none⟩), .nilIface]) ∧ PropsAt w' bp q
    | .error v => e = .returned (.tuple #[.pointer none, v])

set_option maxRecDepth 100000 in
set_option maxHeartbeats 1000000 in
theorem parse_any (s : ByteArray) (w : World) (hs : s.size ≤ 281474976710656) (hgl : Gl w) (hSort : SortC) :
    CallsIn Fence.wide 10 Tryz.prog 8 #[.string s] w (ParsePost w s) := by
  refine callsIn_of_wp_marks Tryz.func8 rfl trivial ?_ rfl
  simp only [Tryz.ntmps8, List.size_toArray, List.length_cons, List.length_nil, Nat.reduceAdd, Nat.reduceSub, Array.replicate_succ, Array.replicate_zero, List.push_toArray, List.append_toArray, List.nil_append, List.cons_append]
  have hf1 : Fence.wide.fn 24 := trivial
  have hC := fun w => callsIn_wide (n := 10 - 1).2 (Tryz.strings_Count_one s 10 w)
  have HC := Lib.hid hC
  have HG := Lib.hid hgl
  have HSort := Lib.hid hSort
  clear hC hgl hSort
  have hcnt := count_le s
  gi_upto_region 2 with (gi_at_call 24; refine (HC.out _).mono ?_; rintro e w' ⟨rfl, rfl⟩)
  gi_cut [26] from 17 (fun s26 wx => s26 = .bool (incL s) ∧ wx = (w.alloc (.cells #[.pointer none] 23)).alloc (.cells #[.nilIface] 25))
  case first =>
    by_cases h0 : s.size = 0
    · obtain rfl : s = ⟨#[]⟩ := by
        apply ByteArray.ext
        exact Array.eq_empty_of_size_eq_zero h0
      gi_wp2
      gi_meet
      exact ⟨rfl, rfl⟩
    · have hp : 0 < s.size := by omega
      have hne : s.toList.isEmpty = false := by
        rw [Lib.toList_data, List.isEmpty_eq_false_iff]
        intro e
        rw [Lib.size_eq, e] at h0
        exact h0 rfl
      have hinc := Lib.hid (incL_pos s hp)
      gi_wp2
      gi_meet
      exact ⟨by rw [hinc.out], rfl⟩
  case rest =>
  obtain ⟨rfl, rfl⟩ := hcut
  gi_upto_if 26 with (fail)
  gi_cut [4] from 17 (fun s4 wx => s4 = .int .i64 (countL s) ∧ wx = (w.alloc (.cells #[.pointer none] 23)).alloc (.cells #[.nilIface] 25))
  case first =>
    have hce := Lib.hid (countL_eq s)
    cases hin : incL s with
    | false =>
      gi_wp2
      gi_meet
      exact ⟨by rw [hce.out, hin]; simp, rfl⟩
    | true =>
      gi_wp2
      gi_meet
      exact ⟨by rw [hce.out, hin]; simp, rfl⟩
  case rest =>
  obtain ⟨rfl, rfl⟩ := hcut
  have hcL : 0 ≤ countL s ∧ countL s ≤ s.size + 1 := by
    rw [countL_eq]
    split <;> omega
  by_cases hbig : 1048576 < s.size
  · have hP := Lib.hid (show parseF s = .error (errV 5) by unfold parseF tooBig; rw [decide_eq_true hbig]; rfl)
    gi_wp2
    refine ⟨.tuple #[.pointer none, errV 5], ?_, ?_, ?_⟩
    · simp [results, Tryz.f8, go_sem, (two_res w (.pointer none) (errV 5)).1, (two_res w (.pointer none) (errV 5)).2, errV_is]
    · exact ((Below.refl _ w).alloc (Nat.le_refl _) _).alloc (by simp) _
    · rw [hP.out]
  · by_cases hbl : 65536 < countL s
    · have hP := Lib.hid (show parseF s = .error (errV 5) by unfold parseF tooBig; rw [decide_eq_true hbl]; simp)
      gi_wp2
      refine ⟨.tuple #[.pointer none, errV 5], ?_, ?_, ?_⟩
      · simp [results, Tryz.f8, go_sem, (two_res w (.pointer none) (errV 5)).1, (two_res w (.pointer none) (errV 5)).2, errV_is]
      · exact ((Below.refl _ w).alloc (Nat.le_refl _) _).alloc (by simp) _
      · rw [hP.out]
    · have HTB := Lib.hid (show tooBig s = false by unfold tooBig; rw [decide_eq_false hbig, decide_eq_false hbl]; rfl)
      have hmm := @run_makeMap Tryz.prog
      gi_upto_region 6 with fail
      obtain ⟨W0, hW0⟩ : ∃ W0, (w.alloc (.cells #[.pointer none] 23)).alloc (.cells #[.nilIface] 25) = W0 := ⟨_, rfl⟩
      have hB0 : Below w.heap.size w W0 := by rw [← hW0]; exact ((Below.refl _ w).alloc (Nat.le_refl _) _).alloc (by simp) _
      have hs0 : W0.heap.size = w.heap.size + 2 := by rw [← hW0]; simp
      have r2 : IsBlk W0 w.heap.size 23 #[.pointer none] := by rw [← hW0]; exact (IsBlk.new w _ _).alloc _
      have r3 : IsBlk W0 (w.heap.size + 1) 25 #[.nilIface] := by
        rw [← hW0]
        have := IsBlk.new (w.alloc (.cells #[.pointer none] 23)) 25 #[.nilIface]
        rwa [World.size_alloc] at this
      rw [hW0]
      clear hW0
      have HS0 := Lib.hid hs0
      clear hs0
      gi_upto_region 7 with fail
      change Code.wpIn _ _ _ _ _ _ (readerW W0)
      obtain ⟨rd1, xb1, hb1, hs1⟩ := readerW_is W0
      have r21 := r2.below hb1
      have r31 := r3.below hb1
      obtain ⟨n0, hn0⟩ : ∃ n0, W0.heap.size = n0 := ⟨_, rfl⟩
      rw [hn0] at hb1 hs1 xb1 rd1 HS0 ⊢
      have hB1 := hB0.trans (hb1.mono (by have := HS0.out; omega))
      generalize readerW W0 = W1 at rd1 xb1 hb1 hs1 r21 r31 hB1 ⊢
      clear r2 r3 hB0 hn0 hb1
      have x1 := (xb1.alloc (.map #[] 0)).cell 0
      simp only [List.getElem?_toArray, List.getElem?_cons_zero] at x1
      have HS1 := Lib.hid hs1
      have RD1 := Lib.hid rd1
      have R21 := Lib.hid r21
      have R31 := Lib.hid r31
      have XB1 := Lib.hid xb1
      have m0 : MapIs Tryz.prog 9 Value.string (W1.alloc (.map #[] 0)) W1.heap.size [] := MapIs.made W1 _ _ _
      have M0 := Lib.hid m0
      clear hs1 rd1 r21 r31 xb1 m0
      gi_wp2_with (first
        | (refine wpListIn_insert_is _ rfl _ _ _ 59 rfl 9 58 ks Tryz.underlying59 Value.string injS W1.heap.size _ rfl M3.out sDecomp _ _ rfl rfl (keyS (by decide)) ?_; intro w7 hm7 ht7; have x7 := turned_cell ht7.grown M3.out.blk x6; have M4 := Lib.hid hm7; have T7 := Lib.hid (T6.out.trans ht7.grown); clear hm7 ht7 x6 M3)
        | (refine wpListIn_insert_is _ rfl _ _ _ 59 rfl 9 58 ks Tryz.underlying59 Value.string injS W1.heap.size _ rfl M2.out sFold _ _ rfl rfl (keyS (by decide)) ?_; intro w6 hm6 ht6; have x6 := turned_cell ht6.grown M2.out.blk x5; have M3 := Lib.hid hm6; have T6 := Lib.hid (T5.out.trans ht6.grown); clear hm6 ht6 x5 M2)
        | (refine wpListIn_insert_is _ rfl _ _ _ 59 rfl 9 58 ks Tryz.underlying59 Value.string injS W1.heap.size _ rfl M1.out sKind _ _ rfl rfl (keyS (by decide)) ?_; intro w5 hm5 ht5; have x5 := turned_cell ht5.grown M1.out.blk x4; have M2 := Lib.hid hm5; have T5 := Lib.hid (T4.out.trans ht5.grown); clear hm5 ht5 x4 M1)
        | (refine wpListIn_insert_is _ rfl _ _ _ 59 rfl 9 58 ks Tryz.underlying59 Value.string injS W1.heap.size _ rfl M0.out sClass _ _ rfl rfl (keyS (by decide)) ?_; intro w4 hm4 ht4; have x4 := turned_cell ht4.grown M0.out.blk x1; have M1 := Lib.hid hm4; have T4 := Lib.hid ht4.grown; clear hm4 ht4 x1 M0))
      have hb17 : Below W1.heap.size W1 w7 := by
        have h := T7.out
        exact ⟨h.os, h.tape, h.output, Nat.le_trans (by simp) h.size, fun i hi => (h.block i (by simp; omega) (fun e => by cases e; omega)).trans (Below.heap_alloc W1 _ i hi)⟩
      have M4' : MapIs Tryz.prog 9 Value.string w7 W1.heap.size (meansKV (n0 + 1 + 1 + 1 + 1 + 1)) := M4.out
      have hm7 : W1.heap.size < w7.heap.size := M4'.lt
      have C8 : Cx (w7.alloc (.cells #[.map (some W1.heap.size)] 59)) w.heap.size (n0 + 1 + 1 + 1 + 1 + 1 + 1) w7.heap.size W1.heap.size (n0 + 1 + 1 + 1 + 1 + 1) :=
        ⟨((R21.out.below hb17).alloc _), ((R31.out.below hb17).alloc _), ((XB1.out.below hb17).alloc _), IsBlk.new _ _ _, M4'.alloc _⟩
      have R8 : Rd (w7.alloc (.cells #[.map (some W1.heap.size)] 59)) n0 (blks0 n0) PP.none_ [] 0 := (RD1.out.below hb17).below ((Below.refl _ w7).alloc (Nat.le_refl _) _)
      have hb08 : Below w.heap.size w (w7.alloc (.cells #[.map (some W1.heap.size)] 59)) := (hB1.trans (hb17.mono hB1.size)).trans (((Below.refl _ w7).alloc (Nat.le_refl _) _).mono (Nat.le_trans hB1.size hb17.size))
      have hs8 : (w7.alloc (.cells #[.map (some W1.heap.size)] 59)).heap.size = w7.heap.size + 1 := by simp
      have HC8 := Lib.hid C8
      have HR8 := Lib.hid R8
      have HB8 := Lib.hid hb08
      have HS8 := Lib.hid hs8
      have HS7 := Lib.hid hm7
      generalize (w7.alloc (.cells #[.map (some W1.heap.size)] 59)) = W8 at HC8 HR8 HB8 HS8 ⊢
      clear C8 R8 hb08 hs8 hm7 M4 M4' T7 T6 T5 T4 x7 hb17 RD1 R21 R31 XB1 hmm hB1
      refine ⟨trivial, (split_call 9 (by omega) _ _ _).mono ?_⟩
      rintro e w9 ⟨rfl, rfl⟩
      gi_wp2
      obtain ⟨m8, hm8⟩ : ∃ m8, W8.heap.size = m8 := ⟨_, rfl⟩
      have b2 : IsBlk (((W8.alloc (.cells #[.string s] 9)).alloc (.cells #[.string ⟨#[10]⟩] 9)).alloc (.cells #[.int .i64 0] 3)) m8 9 #[.string s] := by rw [← hm8]; exact ((IsBlk.new W8 _ _).alloc _).alloc _
      have b1 : IsBlk (((W8.alloc (.cells #[.string s] 9)).alloc (.cells #[.string ⟨#[10]⟩] 9)).alloc (.cells #[.int .i64 0] 3)) (m8 + 1) 9 #[.string ⟨#[10]⟩] := by
        have := (IsBlk.new (W8.alloc (.cells #[.string s] 9)) 9 #[.string ⟨#[10]⟩]).alloc (.cells #[.int .i64 0] 3)
        rwa [World.size_alloc, hm8] at this
      have b3 : IsBlk (((W8.alloc (.cells #[.string s] 9)).alloc (.cells #[.string ⟨#[10]⟩] 9)).alloc (.cells #[.int .i64 0] 3)) (m8 + 2) 3 #[.int .i64 0] := by
        have := IsBlk.new ((W8.alloc (.cells #[.string s] 9)).alloc (.cells #[.string ⟨#[10]⟩] 9)) 3 #[.int .i64 0]
        rwa [World.size_alloc, World.size_alloc, hm8] at this
      have hb89 : Below W8.heap.size W8 (((W8.alloc (.cells #[.string s] 9)).alloc (.cells #[.string ⟨#[10]⟩] 9)).alloc (.cells #[.int .i64 0] 3)) := (((Below.refl _ W8).alloc (Nat.le_refl _) _).alloc (by simp) _).alloc (by simp; omega) _
      have hs9 : (((W8.alloc (.cells #[.string s] 9)).alloc (.cells #[.string ⟨#[10]⟩] 9)).alloc (.cells #[.int .i64 0] 3)).heap.size = m8 + 3 := by simp [hm8]
      rw [hm8]
      generalize ((W8.alloc (.cells #[.string s] 9)).alloc (.cells #[.string ⟨#[10]⟩] 9)).alloc (.cells #[.int .i64 0] 3) = W9 at b1 b2 b3 hb89 hs9 ⊢
      have R9 := HR8.out.below hb89
      have C9 := HC8.out.below hb89
      have hb9 := HB8.out.trans (hb89.mono HB8.out.size)
      have e0 := HS0.out
      have e1 := HS1.out
      have e7 := HS7.out
      have e8 := HS8.out
      have eN : n0 + 7 ≤ W1.heap.size ∧ W1.heap.size < w7.heap.size ∧ w7.heap.size < m8 := by omega
      generalize W1.heap.size = mm at *
      generalize w7.heap.size = mb at *
      have hEN := Lib.hid (And.intro e0 eN)
      have HR9 := Lib.hid R9
      have HC9 := Lib.hid C9
      have HB9 := Lib.hid hb9
      have HS9 := Lib.hid hs9
      have HX1 := Lib.hid b1
      have HX2 := Lib.hid b2
      have HX3 := Lib.hid b3
      clear HR8 HC8 HB8 HS0 HS1 HS7 HS8 R9 C9 hb9 hb89 e0 e1 e7 e8 eN hs9 b1 b2 b3 hm8
      refine wpIn_rangeFunc_upd (n := 10) rfl (by omega) (gf := 76) (lb := #[.pointer (some ⟨m8 + 1, 0, none⟩), .pointer (some ⟨m8, 0, none⟩), .pointer (some ⟨m8 + 2, 0, none⟩)]) rfl trivial (enters_of Tryz.func76 (by kernel_rfl) rfl)
        (split_seq 9 (by omega) s (m8 + 1) m8 (m8 + 2) W9 HX1.out HX2.out HX3.out (by omega) (by omega))
        (fun h g => ⟨g.1.trans h.1, g.2.1.trans h.2.1, g.2.2.trans h.2.2⟩)
        (fun A B r hA hg hr => ?kpg) (by have := HS9.out; omega) (fun _ => rfl)
        (LI w s n0 mb mm (m8 + 1) m8 (m8 + 2)) (LX w s)
        (LI.box hEN.out.1 hEN.out.2.1 hEN.out.2.2.1 hEN.out.2.2.2 (by omega) (by omega)) (fun c => LX.box (by have := hEN.out; omega))
        (LI.own hEN.out.1 hEN.out.2.1 hEN.out.2.2.1 hEN.out.2.2.2 (by have := HS9.out; omega)) (fun c => LX.own (by have := hEN.out; have := HS9.out; omega))
        ⟨PP.none_, [], rfl, HR9.out, HC9.out, ⟨_, HX2.out⟩, HB9.out, HX1.out, HX3.out⟩ (fun t x => (t.setIfInBounds 57 (.string x)).setIfInBounds 7 (.string x)) ?assign ?body ?done ?stop
      case kpg =>
        have h9 := HS9.out
        exact ⟨hg.block _ (by omega) (fun e => by have := hr _ e.symm; omega), hg.block _ (by omega) (fun e => by have := hr _ e.symm; omega), hg.block _ (by omega) (fun e => by have := hr _ e.symm; omega)⟩
      case assign =>
        intro l x W K hK
        gi_wp2
        exact hK
      case body =>
        intro l k x W hI hx
        obtain ⟨q, ln, hlin, hR, hC, h2, hl, g1, g3⟩ := hI
        have hkl : k < (pieces s).length := (List.getElem?_eq_some_iff.1 hx).1
        rw [pieces_length] at hkl
        have hcnt2 : (Lib.countByte s.data.toList 10 : Int) ≤ countL s := by rw [countL_eq]; split <;> omega
        have hx2 := pieces_size s x (List.mem_of_getElem? hx)
        have hgl := HG.out
        simp only [List.setIfInBounds_toArray, List.set_cons_succ, List.set_cons_zero]
        refine wpIn_mono (body_walk l (blks0 n0) n0 w.heap.size (n0 + 1 + 1 + 1 + 1 + 1 + 1) mb mm q ln k x W hR hC w hgl rfl hl ?_ (by omega) (by omega) (by have := hEN.out; omega) (by have := hC.cx.lt; omega) (by have := hR.nc; omega) (by have := hR.nk; omega) _ _ _ _ _ _ _ _ _ _ _ _ _ _ _ _ _ _ _ _ _ _ _ _ _ _ _ _ _ _ _ _ _ _ _ _ _ _ _ _ _ _ _ _ _ _ _ _ _ _ _ _ _ _ _ _ _ _ _ _ _ _ _ _ _ _ _ _ _ _ _ _ _ _ _ _ _ _ _ _ _ _ _ _ _ _ _ _ _ _ _ _ _ _ _ _ _ _ _ _ _ _ _ _ _ _ _ _)
          (round_post hEN.out.1 hEN.out.2.1 hEN.out.2.2.1 hEN.out.2.2.2 (by omega) (by omega) (by have := HS9.out; omega) hx hlin hC h2 g1 g3 hl)
        intro b hb
        have := hEN.out
        unfold blks0
        simp only
        omega
      case done =>
        intro D W hD hI hK
        obtain ⟨q, ln, hlin, hR, hC, _, hl, _, _⟩ := hI
        rw [List.drop_length] at hlin
        have hlin' : linesF (pieces s) 0 PP.none_ [] = .ok (q, ln) := hlin
        obtain ⟨p32, p8, pln, plen⟩ := linesF_ok hlin'
        have hpl := pieces_length s
        have hcnt2 : (Lib.countByte s.data.toList 10 : Int) ≤ countL s := by rw [countL_eq]; split <;> omega
        have hE := ends_any HSort.out n0 (blks0 n0) q ln ((pieces s).length : Int) W hR p32 p8 pln (by omega)
        have d1 := hC.cx.cell 0
        simp only [List.getElem?_toArray, List.getElem?_cons_zero] at d1
        have HR := Lib.hid hR
        have HC := Lib.hid hC
        have HLIN := Lib.hid hlin'
        have HL := Lib.hid hl
        have HK := Lib.hid hK
        have hf3 : Fence.wide.fn 34 := trivial
        have hDD : w.heap.size + 1 < D := by have := HS9.out; have := hEN.out; omega
        have hwW : w.heap.size + 1 < W.heap.size := hC.c3.lt
        clear hR hC hlin hlin' hl hK p32 p8 pln plen
        unfold EndsPost at hE
        cases hEF : endsF q ln with
        | some f =>
          have hP := Lib.hid (show parseF s = .error (faultV f) by unfold parseF; rw [HTB.out, HLIN.out]; simp only [hEF]; rfl)
          rw [hEF] at hE
          simp only [endsV, faultV] at hE
          have HE := Lib.hid (callsIn_wide (n := 9).2 hE)
          clear hE hEF
          dsimp only
          gi_upto_region 23 with (gi_at_call 34; refine HE.out.mono ?_; rintro e W2 ⟨rfl, hb2⟩)
          have c2 := HC.out.c2.below hb2
          have c3 := HC.out.c3.below hb2
          have x2 := c2.cell 0
          have x3 := c3.cell 0
          have f2 := c2.frozen 0
          have f3 := c3.frozen 0
          have hK2 : W2.heap[D]? = some (.deferred (some [])) := (hb2.block D (Array.getElem?_eq_some_iff.1 HK.out).1).trans HK.out
          have FIN := Lib.hid (ret_two c2 c3 hK2 hDD (HL.out.trans (hb2.mono HL.out.size)) (.pointer none) (faultV f))
          clear c2 c3 hK2
          simp only [List.getElem?_toArray, List.getElem?_cons_zero] at x2 x3
          gi_wp2
          obtain ⟨t1, t2, t3, t4⟩ := FIN.out
          refine ⟨by simp, .inl ⟨_, _, rfl, run_takeDeferred t1, .tuple #[.pointer none, faultV f], ?_, t4, ?_⟩⟩
          · simp only [faultV] at t2 t3
            simp [results, Tryz.f8, go_sem, t2, t3, faultV]
          · rw [hP.out]
        | none =>
          have hP := Lib.hid (show parseF s = .ok q by unfold parseF; rw [HTB.out, HLIN.out]; simp only [hEF]; rfl)
          rw [hEF] at hE
          simp only [endsV] at hE
          have HE := Lib.hid (callsIn_wide (n := 9).2 hE)
          clear hE hEF
          dsimp only
          gi_upto_region 24 with (gi_at_call 34; refine HE.out.mono ?_; rintro e W2 ⟨rfl, hb2⟩)
          have R2 := HR.out.below hb2
          obtain ⟨vc, vk, r1, _⟩ := R2.ex
          have x0 : W2.cell? ⟨n0 + 1 + 1 + 1 + 1 + 1, 0, none⟩ = some (.pointer (some ⟨n0 + 1 + 1 + 1, 0, none⟩)) := r1.cell 0
          have x1 := (hb2.cell (World.block_lt_of_cell? _ _ d1)).trans d1
          have c2 := HC.out.c2.below hb2
          have c3 := HC.out.c3.below hb2
          have x2 := c2.cell 0
          have x3 := c3.cell 0
          have f2 := c2.frozen 0
          have f3 := c3.frozen 0
          have hK2 : W2.heap[D]? = some (.deferred (some [])) := (hb2.block D (Array.getElem?_eq_some_iff.1 HK.out).1).trans HK.out
          have FIN := Lib.hid (ret_two c2 c3 hK2 hDD (HL.out.trans (hb2.mono HL.out.size)) (.pointer (some ⟨n0 + 1 + 1 + 1, 0, none⟩)) .nilIface)
          have RF := Lib.hid (ret_rd R2 c2 c3 hK2 (by have := hEN.out; omega) hDD (.pointer (some ⟨n0 + 1 + 1 + 1, 0, none⟩)) .nilIface)
          clear c2 c3 hK2 R2
          simp only [List.getElem?_toArray, List.getElem?_cons_zero] at x2 x3
          gi_wp2
          obtain ⟨t1, t2, t3, t4⟩ := FIN.out
          refine ⟨by simp, .inl ⟨_, _, rfl, run_takeDeferred t1, .tuple #[.pointer (some ⟨n0 + 1 + 1 + 1, 0, none⟩), .nilIface], ?_, t4, ?_⟩⟩
          · simp [results, Tryz.f8, go_sem, t2, t3]
          · rw [hP.out]
            exact ⟨_, rfl, RF.out⟩
      case stop =>
        rintro D c k W hD ⟨rfl, f, hlin, c2, c3, hl⟩ hK
        have hP := Lib.hid (show parseF s = .error (faultV f) by unfold parseF; rw [HTB.out, hlin]; rfl)
        gi_wp2
        have k2 := cell_kept (c2.cell 0) (grownBy_putObj' W D (.deferred none)) (fun r e => by cases e; exact ⟨_, hK, rfl⟩)
        have k3 := cell_kept (c3.cell 0) (grownBy_putObj' W D (.deferred none)) (fun r e => by cases e; exact ⟨_, hK, rfl⟩)
        refine ⟨by simp, .inl ⟨_, _, rfl, run_takeDeferred hK, .tuple #[.pointer none, faultV f], ?_, ?_, ?_⟩⟩
        · simp [results, Tryz.f8, go_sem, k2, k3]
        · exact hl.trans (belowK_b (w := w) (Nat.le_refl _) W D _ _ (by have := HS9.out; have := hEN.out; omega) hK rfl rfl)
        · rw [hP.out]

end Go.Proofs.YtgidpknckbgmbaaGreatDoor
