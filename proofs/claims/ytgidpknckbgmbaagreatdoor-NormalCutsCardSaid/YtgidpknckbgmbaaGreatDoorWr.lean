/- A stream's Write: the Go code does what the plain function does. -/
import Derived.Test.YtgidpknckbgmbaaGreatDoorStr
set_option linter.unusedSimpArgs false
set_option linter.unusedVariables false
namespace Go.Proofs.YtgidpknckbgmbaaGreatDoor
open Go.RowKit Go.Sort

theorem run_append_runes (w : World) (base : Nat) (v : Value) (l : List Int) (hown : OwnRunes base w v l) (nb : Nat) (vx : Value) (ys : List Int) (hv : RunesAt nb w vx ys) (hn : l.length + ys.length < 1099511627776) (hbase : base ≤ w.heap.size) (ty : TypeId) :
    ∃ v' w', (Builtin.append_ #[22, 22] ty #[v, vx]).run Tryz.prog w = .ok v' w' ∧ OwnRunes base w' v' (l ++ ys) ∧ w.grownBy w' v.ownBlock ∧ SameNew w v v' := by
  obtain ⟨i0, hi, hz0, hz1, hz2⟩ := info_parts infoR
  rcases hv.cases with ⟨rfl, rfl⟩ | ⟨b, off, cap, rfl, h1, h2, h3, h4⟩
  · obtain ⟨av, cv, hvv, c1, c2⟩ := hown.slice
    refine ⟨v, w, ?_, by rw [List.append_nil]; exact hown, World.grownBy.refl _ _, SameNew.refl _ _⟩
    rw [hvv]
    cases av <;> simp [Builtin.append_, run_underlying Tryz.underlying22, sizeOf, typeInfo, hi, Builtin.lenOf, Builtin.firstCells, loadCells, c1, storeCells]
  · obtain ⟨v', w', hr, k2, k3, k4⟩ := run_append_own2 (P := Tryz.prog) w base 22 ty 21 i0 (.int .i32 0) 1 4 Tryz.underlying22 hi hz0 hz1 hz2 rfl (by decide) v l.length (l.map (Value.int .i32)) hown ⟨b, off, none⟩ ys.length cap (ys.map (Value.int .i32)) (by simp)
      (fun j u hj => by
        rw [List.getElem?_map] at hj
        obtain ⟨y, hy, rfl⟩ := Option.map_eq_some_iff.1 hj
        rw [Addr.add_lit]
        exact h4 j y hy) (fun u hu => by obtain ⟨y, _, rfl⟩ := List.mem_map.1 hu; rfl) (by unfold maxLen; omega) (by omega) hbase
    exact ⟨v', w', hr, by unfold OwnRunes; simpa using k2, k3, k4⟩

theorem step_append_runes {ops : Array Oper} {o : Oper} {a : Act} {w : World} {K : Act → World → Prop} {Q : Exit → Act → World → Prop} {E : Prop} (hgd : o.guard = none) (s x : Operand)
    (ho : o.op = .call { callee := .builtin .append, args := #[s, x], argTypes := #[22, 22] }) (base : Nat) (v : Value) (l : List Int) (hs : a.eval s = v) (hown : OwnRunes base w v l) (nb : Nat) (vx : Value) (ys : List Int)
    (hx : a.eval x = vx) (hv : RunesAt nb w vx ys) (hn : l.length + ys.length < 1099511627776) (hbase : base ≤ w.heap.size)
    (h : ∀ v' w', OwnRunes base w' v' (l ++ ys) → w.grownBy w' v.ownBlock → SameNew w v v' → K (a.put o.dst v') w') :
    if Region.wanted o (yielded ops a.tmps) = true then Oper.wp Tryz.prog o a w K Q else E := by
  have hw : Region.wanted o (yielded ops a.tmps) = true := by simp [Region.wanted, hgd]
  rw [if_pos hw]
  obtain ⟨v', w', hr, k2, k3, k4⟩ := run_append_runes w base v l hown nb vx ys hv hn hbase o.type
  unfold Oper.wp execOp
  simp only [ho, resolve, invoke, builtin, Sem.run_bind, Sem.run_pure, Result.andThen_ok, List.map_toArray, List.map_cons, List.map_nil, hs, hx, hr]
  exact h v' w' k2 k3 k4

/-- How much of a decomposed row is settled. -/
def settG (k : Int → Int) : List Int → Nat → Nat → Nat
  | [], _, n => n
  | x :: r, i, n => settG k r (i + 1) (if k x = 0 then i + 1 else n)
def settF (k : Int → Int) (d : List Int) : Nat := settG k d 0 0
theorem settG_le (k : Int → Int) : ∀ (d : List Int) (i n : Nat), n ≤ i → settG k d i n ≤ i + d.length
  | [], i, n, h => by simp [settG]; omega
  | x :: r, i, n, h => by
    have := settG_le k r (i + 1) (if k x = 0 then i + 1 else n) (by split <;> omega)
    simp only [settG, List.length_cons]
    omega
theorem settF_le (k : Int → Int) (d : List Int) : settF k d ≤ d.length := by simpa [settF] using settG_le k d 0 0 (Nat.le_refl _)
theorem sett_step (k : Int → Int) (d : List Int) (i n : Nat) (hi : i < d.length) : settG k (d.drop i) i n = settG k (d.drop (i + 1)) (i + 1) (if k d[i] = 0 then i + 1 else n) := by
  rw [List.drop_eq_getElem_cons hi]
  rfl

/-- Nothing has changed but block sb, the block of vr, and new ones. -/
structure ChW (w w' : World) (sb : Nat) (vr : Value) : Prop where
  os : w'.os = w.os
  tape : w'.tape = w.tape
  output : w'.output = w.output
  size : w.heap.size ≤ w'.heap.size
  block : ∀ k, k < w.heap.size → k ≠ sb → some k ≠ vr.ownBlock → w'.heap[k]? = w.heap[k]?
structure WrPost (w : World) (sb bp : Nat) (vr : Value) (d1 d2 : List Int) (e : Ending) (w' : World) : Prop where
  ex : ∃ v' vr', e = .returned v' ∧ RunesAt w'.heap.size w' v' d1 ∧ (∀ g, v'.ownBlock = some g → w.heap.size ≤ g) ∧ OwnRunes w.heap.size w' vr' d2 ∧ StreamAt w' sb bp vr' ∧ (∀ g, v'.ownBlock = some g → vr'.ownBlock ≠ some g)
  ch : ChW w w' sb vr

theorem OwnRunes.tail {base : Nat} {w : World} {g m cap : Nat} {d : List Int} (h : OwnRunes base w (.slice (some ⟨g, 0, none⟩) m cap) d) (hm : d.length = m) {n : Nat} (hn : n ≤ m) : (n < cap → RunesAt w.heap.size w (.slice (some ⟨g, n, none⟩) (m - n) (cap - n)) (d.drop n)) ∧ (¬ n < cap → RunesAt w.heap.size w (.slice (some ⟨g, 0, none⟩) (m - n) 0) (d.drop n)) ∧ RunesAt w.heap.size w (.slice (some ⟨g, 0, none⟩) n n) (d.take n) := by
  obtain ⟨h1, ⟨e, _⟩ | ⟨g', cap', cur, e, hb, hg, hc, hmx, hs, ht⟩⟩ := h
  · cases e
  · simp only [Value.slice.injEq, Option.some.injEq, Addr.mk.injEq, and_true, true_and] at e
    obtain ⟨rfl, _, rfl⟩ := e
    subst hm
    have hgl := (Array.getElem?_eq_some_iff.1 hg).1
    have hcur : ∀ j x, d[j]? = some x → cur[j]? = some (Value.int .i32 x) := fun j x hj => by
      have hjl := (List.getElem?_eq_some_iff.1 hj).1
      have h3 : (cur.toList.take (d.length * 1))[j]? = some (.int .i32 x) := by rw [ht, List.getElem?_map, hj]; rfl
      rwa [List.getElem?_take, if_pos (by omega), Array.getElem?_toList] at h3
    refine ⟨fun hlt => .inr ⟨g, n, cap - n, cur, (0, 0), by simp, by simp; omega, by omega, hgl, hg, fun j x hj => hcur (n + j) x (by rwa [List.getElem?_drop] at hj)⟩, fun hge => ?_, .inr ⟨g, 0, n, cur, (0, 0), by simp; omega, by simp; omega, by omega, hgl, hg, fun j x hj => ?_⟩⟩
    · have e0 : d.drop n = [] := List.drop_of_length_le (by omega)
      exact .inr ⟨g, 0, 0, cur, (0, 0), by rw [e0]; simp; omega, by rw [e0]; simp, by unfold maxLen; omega, hgl, hg, fun j x hj => by rw [e0] at hj; cases hj⟩
    · rw [List.getElem?_take] at hj
      split at hj
      · simpa using hcur j x hj
      · cases hj

theorem ChW.of {w w1 w2 w3 : World} {sb : Nat} {vr : Value} (h : (w.drew).grownBy w1 vr.ownBlock) (hb : Below w1.heap.size w1 w2) (v : Value) (h3 : Below w2.heap.size w2 w3) : ChW w (w3.setCell ⟨sb, 1, none⟩ v) sb vr := by
  have s1 := h.size
  have s2 := hb.size
  have s3 := h3.size
  change w.heap.size ≤ _ at s1
  exact ⟨h3.os.trans (hb.os.trans h.os), h3.tape.trans (hb.tape.trans h.tape), h3.output.trans (hb.output.trans h.output), by simp; omega, fun k hk h1 h2 => by
    rw [Below.heap_setCell _ _ _ _ (fun e => h1 e), h3.block k (by omega), hb.block k (by omega)]
    exact h.block k (by simpa using hk) h2⟩

theorem StreamAt.below {w w' : World} {sb bp : Nat} {vr : Value} (h : StreamAt w sb bp vr) (hb : Below w.heap.size w w') : StreamAt w' sb bp vr := (hb.block sb h.lt).trans h
theorem runes_setCell {n₀ : Nat} {w : World} {sb bp : Nat} {vr v u : Value} {l : List Int} (hs : StreamAt w sb bp vr) (h : RunesAt n₀ w v l) : RunesAt n₀ (w.setCell ⟨sb, 1, none⟩ u) v l :=
  h.keep fun b cur fr _ hA => Below.heap_setCell _ _ _ _ (fun e => by subst e; rw [show w.heap[_]? = _ from hs] at hA; cases hA)
theorem own_setCell {base sb : Nat} {w : World} {v u : Value} {l : List Int} (h : OwnRunes base w v l) (hs : sb < base) : OwnRunes base (w.setCell ⟨sb, 1, none⟩ u) v l :=
  World.ownsRow.kept h (row := some sb) ⟨rfl, rfl, rfl, by simp, fun k _ hk => Below.heap_setCell _ _ _ _ (fun e => hk (by rw [e]))⟩ (by
    cases e : v.ownBlock with
    | none => exact .inl rfl
    | some g => exact .inr fun e2 => by have := (World.ownsRow.lt h g e).1; cases e2; omega)
theorem slice_len {base : Nat} {w : World} {v : Value} {o : List Int} (h : OwnRunes base w v o) {L : Nat} (hL : o.length = L) : ∃ a cap, v = .slice a L cap ∧ OwnRunes base w (.slice a L cap) o := by
  obtain ⟨a, cap, e, _⟩ := h.slice
  rw [hL] at e
  exact ⟨a, cap, e, by rw [e] at h; exact h⟩
theorem wr_fin {w w1 w2 wr w4 : World} {sb bp : Nat} {vr : Value} (hgrow : w.drew.grownBy w1 vr.ownBlock) (hb2 : Below w1.heap.size w1 w2) (hbl : Below w2.heap.size w2 wr) (h4 : Below wr.heap.size wr w4) (hst2 : StreamAt w2 sb bp vr) (hsl : sb < w.heap.size) {v' : Value} {d1 : List Int}
    (hv' : RunesAt wr.heap.size wr v' d1) (hown' : ∀ g, v'.ownBlock = some g → w.heap.size ≤ g ∧ g < wr.heap.size) {v3 : Value} {d2 : List Int} (ho3 : OwnRunes wr.heap.size w4 v3 d2) : WrPost w sb bp vr d1 d2 (.returned v') (w4.setCell ⟨sb, 1, none⟩ v3) := by
  have s1 : w.heap.size ≤ w1.heap.size := hgrow.size
  have s2 := hb2.size
  have s3 := hbl.size
  have s4 := h4.size
  have hst4 := (hst2.below hbl).below h4
  refine ⟨⟨v', v3, rfl, ?_, fun g e => (hown' g e).1, own_setCell (ho3.base (by omega)) hsl, hst4.set v3, fun g e e2 => ?_⟩, ChW.of hgrow hb2 v3 (hbl.trans (h4.mono s3))⟩
  · have := runes_setCell (u := v3) hst4 ((hv'.below h4).more s4)
    simpa using this
  · have := (hown' g e).2
    have := (World.ownsRow.lt ho3 g e2).1
    omega

set_option maxHeartbeats 2000000 in
set_option maxRecDepth 100000 in
theorem Write_any (q : PP) (D : Nat) (hf : Fine q D) (bp : Nat) (w0 : World) (h0 : PropsAt w0 bp q) (w : World) (hw : Below w0.heap.size w0 w) (sb base : Nat) (vr vl : Value) (rest l : List Int) (hst : StreamAt w sb bp vr) (hor : OwnRunes base w vr rest) (hb : w0.heap.size ≤ base) (hbw : base ≤ w.heap.size)
    (hne : vr.ownBlock ≠ some sb) (hl : RunesAt w.heap.size w vl l) (h32 : ∀ x ∈ rest ++ l, I32 x) (hlen : (fullF q D (rest ++ l)).length < 1099511627776) (hlen2 : rest.length + l.length < 1099511627776) :
    Calls Tryz.prog 17 #[.pointer (some ⟨sb, 0, none⟩), vl] w (WrPost w sb bp vr ((dcmpF q D (rest ++ l)).take (settF q.cls (dcmpF q D (rest ++ l)))) ((dcmpF q D (rest ++ l)).drop (settF q.cls (dcmpF q D (rest ++ l))))) := by
  have mixed : Tryz.prog.follows .mixedOrders = true := by kernel_rfl
  obtain ⟨c0, c1, c2⟩ := hst.cells
  obtain ⟨d, hd⟩ : ∃ d, dcmpF q D (rest ++ l) = d := ⟨_, rfl⟩
  have hdec := fun (w1 : World) (v1 : Value) (hw1 : Below w0.heap.size w0 w1) (ho1 : OwnRunes base w1 v1 (rest ++ l)) => Decompose_any q D hf bp w1 v1 (rest ++ l) (h0.below hw1) ho1.runes h32 hlen
  rw [hd] at hdec ⊢
  have HD := Lib.hid hdec
  have HO := Lib.hid hor
  have HLl := Lib.hid hl
  have HW := Lib.hid hw
  have HST := Lib.hid hst
  have H0 := Lib.hid h0
  have HF := Lib.hid hf
  have hslt := hst.lt
  have hne' : some (⟨sb, 0, none⟩ : Addr).block ≠ vr.ownBlock := fun e => hne e.symm
  have hdl : d.length < 1099511627776 := by rw [← hd]; unfold dcmpF; rw [orderF_len]; exact hlen
  clear hdec hor hl hw hst h0 hf hd hlen h32
  go_enter Tryz.func17, Tryz.ntmps17
  go_wp2_with fail
  go_region_held3 (fun w' => w'.cell? ⟨sb, 0, none⟩ = some (.pointer (some ⟨bp, 0, none⟩)) ∧ w'.cell? ⟨sb, 1, none⟩ = some vr)
    (first
      | go_keep
      | (go_split_ands
         exact ⟨hgrow.cell (by assumption) (fun e => hne e.symm), hgrow.cell (by assumption) (fun e => hne e.symm)⟩)
      | (go_split_ands
         exact ⟨(hb2.cell (p := ⟨sb, 0, none⟩) (Nat.lt_of_lt_of_le hslt (by have := hgrow.size; simpa using this))).trans ‹w1.cell? ⟨sb, 0, none⟩ = some (.pointer (some ⟨bp, 0, none⟩))›, (hb2.cell (p := ⟨sb, 1, none⟩) (Nat.lt_of_lt_of_le hslt (by have := hgrow.size; simpa using this))).trans ‹w1.cell? ⟨sb, 1, none⟩ = some vr›⟩))
    ((first
      | (refine step_append_runes (by rfl) _ _ (by rfl) base vr rest (by rfl) (World.ownsRow.drew HO.out) w.heap.size vl l (by rfl) (HLl.out.below (Below.refl _ _).drew) hlen2 (by simpa using hbw) ?_; intro v1 w1 ho1 hgrow hsn)
      | (go_at_call 10; refine (HD.out _ _ ((HW.out.drew).trans (grown_blk hgrow (by simpa using HW.out.size) (fun g e => Nat.le_trans hb (World.ownsRow.lt HO.out g e).1))) ho1).mono ?_; rintro e w2 ⟨v2, rfl, ho2, hb2⟩)))
  have s1 := hgrow.size
  have s2 := hb2.size
  have hst2 : StreamAt w2 sb bp vr := by
    unfold StreamAt
    rw [hb2.block sb (by simp at s1; omega)]
    exact (hgrow.block sb (by simpa using hslt) hne').trans HST.out
  have hbel : Below w0.heap.size w0 w2 := (HW.out.drew).trans ((grown_blk hgrow (by simpa using HW.out.size) (fun g e => Nat.le_trans hb (World.ownsRow.lt HO.out g e).1)).trans (hb2.mono (Nat.le_trans (by simpa using HW.out.size) s1)))
  have HG := Lib.hid (And.intro hgrow hb2)
  have HST2 := Lib.hid hst2
  have HBl := Lib.hid hbel
  have HO2 := Lib.hid ho2
  change w.heap.size ≤ _ at s1
  obtain ⟨a2, cap2, rfl, hcp2, hmx2⟩ := ho2.slice
  unfold maxLen at hmx2
  obtain ⟨m, hm⟩ : ∃ m, d.length = m := ⟨_, rfl⟩
  rw [hm] at hdl hcp2 HO2 ⊢
  have HM := Lib.hid hm
  clear hgrow hb2 hst2 hbel ho2 hsn ho1 c0 c1 c2 hm
  go_wp2_with fail
  go_loopw [6, 21] (fun vn vi wr => ∃ i n : Nat, i ≤ m ∧ n ≤ i ∧ vi = .int .i64 i ∧ vn = .int .i64 n ∧ Hid (settG q.cls (d.drop i) i n = settF q.cls d) ∧ Hid (Below w2.heap.size w2 wr)) (fun _ vi _ => m - (intOf vi).toNat)
  case atStart => exact ⟨0, 0, by omega, by omega, rfl, rfl, rfl, Below.refl _ _⟩
  case round =>
    obtain ⟨i, n, hi, hn, rfl, rfl, hse, hbl⟩ := hrel
    by_cases him : i < m
    · have hid : i < d.length := by have := HM.out; omega
      obtain ⟨x, hx⟩ : ∃ x, d[i] = x := ⟨_, rfl⟩
      have hse2 := (sett_step q.cls d i n hid).symm.trans hse.out
      rw [hx] at hse2
      obtain ⟨g2, rfl, hcell⟩ := HO2.out.spot (fun e => by rw [e] at hid; simp at hid)
      have hcx := hcell i x (by rw [List.getElem?_eq_getElem hid, hx])
      have hcs := HST2.out.cells.1
      have c1 : ∀ p : BelowBy wr, p.W.cell? ⟨g2, i, none⟩ = some (.int .i32 x) := fun p => ((hbl.out.trans (p.h.mono hbl.out.size)).cell (World.block_lt_of_cell? _ _ hcx)).trans hcx
      have c2 : ∀ p : BelowBy wr, p.W.cell? ⟨sb, 0, none⟩ = some (.pointer (some ⟨bp, 0, none⟩)) := fun p => ((hbl.out.trans (p.h.mono hbl.out.size)).cell (World.block_lt_of_cell? _ _ hcs)).trans hcs
      have hcl := Lib.hid fun p : BelowBy wr => Class_any bp x q p.W (H0.out.below (HBl.out.trans ((hbl.out.trans (p.h.mono hbl.out.size)).mono HBl.out.size)))
      clear hcell hcx hcs hse hx hid
      by_cases hx0 : q.cls x = 0
      · have hb0 : (q.cls x == 0) = true := beq_iff_eq.2 hx0
        rw [if_pos hx0] at hse2
        have HSe := Lib.hid hse2
        clear hse2 hx0
        go_wp2_with fail
        refine wp_region_quiet_below mixed (by kernel_rfl) ?_
        repeat (quiet_step ((go_at_call 37; exact below_by (hcl.out _))))
        refine wpQuiet_nil ?_
        intro w3 hw'
        obtain ⟨⟨w4, hw3⟩, hw''⟩ := hw'
        change w3 = w4 at hw''
        subst hw''
        have hb3 := Lib.hid (hbl.out.trans (hw3.mono hbl.out.size))
        clear c1 c2 hcl hbl hw3
        go_wp2
        go_roundw
        case rel => exact ⟨i + 1, i + 1, by omega, by omega, by go_num, by go_num, HSe, hb3⟩
        case measure => simp [intOf]; omega
      · have hb0 : (q.cls x == 0) = false := beq_eq_false_iff_ne.2 hx0
        rw [if_neg hx0] at hse2
        have HSe := Lib.hid hse2
        clear hse2 hx0
        go_wp2_with fail
        refine wp_region_quiet_below mixed (by kernel_rfl) ?_
        repeat (quiet_step ((go_at_call 37; exact below_by (hcl.out _))))
        refine wpQuiet_nil ?_
        intro w3 hw'
        obtain ⟨⟨w4, hw3⟩, hw''⟩ := hw'
        change w3 = w4 at hw''
        subst hw''
        have hb3 := Lib.hid (hbl.out.trans (hw3.mono hbl.out.size))
        clear c1 c2 hcl hbl hw3
        go_wp2
        go_roundw
        case rel => exact ⟨i + 1, n, by omega, by omega, by go_num, rfl, HSe, hb3⟩
        case measure => simp [intOf]; omega
    · have hnf : n = settF q.cls d := by
        have := hse.out
        rw [List.drop_of_length_le (by have := HM.out; omega)] at this
        exact this
      have hor := own_below_blk HO2.out hbl.out
      have hst3 := HST2.out.below hbl.out
      have hcs3 := hst3.cells
      obtain ⟨k1, k2, k3⟩ := hcs3
      have hn' : n ≤ m := by omega
      have HNf := Lib.hid hnf
      have hs12 : w.heap.size ≤ w1.heap.size ∧ w1.heap.size ≤ w2.heap.size ∧ w2.heap.size ≤ wr.heap.size := ⟨s1, s2, hbl.out.size⟩
      clear hnf hst3 k1
      rcases hor.2 with ⟨e, hm0⟩ | ⟨g2, cap2', cur, e, hg2, hgg, _⟩
      · simp only [Value.slice.injEq] at e
        obtain ⟨rfl, rfl, rfl⟩ := e
        obtain rfl : n = 0 := by omega
        obtain rfl : d = [] := List.length_eq_zero_iff.1 HM.out
        have HLd := Lib.hid (show ([] : List Int).length = 0 from rfl)
        have hcl := Lib.hid (clone_any (.slice none 0 0) [] wr (by simp) (.inl ⟨rfl, rfl⟩))
        clear hor him
        go_wp2_with (go_at_call 40; refine hcl.out.mono ?_; rintro e w4 ⟨v3, rfl, ho3, hb4⟩; obtain ⟨a3, cap3, rfl, ho3'⟩ := slice_len ho3 HLd.out; have k2' := (hb4.cell (World.block_lt_of_cell? _ _ k2)).trans k2; have k3' := (hb4.frozen (World.block_lt_of_cell? _ _ k2)).trans k3; have HO3 := Lib.hid ho3'; have HB4 := Lib.hid hb4; clear ho3 ho3' hb4)
        go_ret
        rw [← HNf.out]
        exact wr_fin HG.out.1 HG.out.2 hbl.out HB4.out HST2.out hslt (.inl ⟨rfl, rfl⟩) (fun g e => by cases e) HO3.out
      · simp only [Value.slice.injEq] at e
        obtain ⟨rfl, hxx, rfl⟩ := e
        clear hxx
        have hdm : d.length ≤ m ∧ m ≤ d.length := by have := HM.out; omega
        have HLd := Lib.hid (show (d.drop n).length = m - n by simp; omega)
        obtain ⟨t1, t2, t3⟩ := OwnRunes.tail hor HM.out hn'
        have hgw : w.heap.size ≤ g2 ∧ g2 < wr.heap.size := ⟨by omega, (Array.getElem?_eq_some_iff.1 hgg).1⟩
        have HT3 := Lib.hid (And.intro t3 hgw)
        by_cases hnc : n < cap2
        · have hcl := Lib.hid (clone_any _ _ wr (by simp; omega) (t1 hnc))
          have hnc2 : n ≤ cap2 := by omega
          have hnc3 : (n : Int) ≤ cap2 := by omega
          clear hor t1 t2 t3 hgg hgw hdm
          go_wp2_with (go_at_call 40; refine hcl.out.mono ?_; rintro e w4 ⟨v3, rfl, ho3, hb4⟩; obtain ⟨a3, cap3, rfl, ho3'⟩ := slice_len ho3 HLd.out; have k2' := (hb4.cell (World.block_lt_of_cell? _ _ k2)).trans k2; have k3' := (hb4.frozen (World.block_lt_of_cell? _ _ k2)).trans k3; have HO3 := Lib.hid ho3'; have HB4 := Lib.hid hb4; clear ho3 ho3' hb4)
          go_ret
          rw [← HNf.out]
          exact wr_fin HG.out.1 HG.out.2 hbl.out HB4.out HST2.out hslt HT3.out.1 (fun g e => by cases e; exact HT3.out.2) HO3.out
        · have hcl := Lib.hid (clone_any _ _ wr (by simp; omega) (t2 hnc))
          have hcn : cap2 ≤ n := by omega
          clear hor t1 t2 t3 hgg hgw hnc hdm
          go_wp2_with (go_at_call 40; refine hcl.out.mono ?_; rintro e w4 ⟨v3, rfl, ho3, hb4⟩; obtain ⟨a3, cap3, rfl, ho3'⟩ := slice_len ho3 HLd.out; have k2' := (hb4.cell (World.block_lt_of_cell? _ _ k2)).trans k2; have k3' := (hb4.frozen (World.block_lt_of_cell? _ _ k2)).trans k3; have HO3 := Lib.hid ho3'; have HB4 := Lib.hid hb4; clear ho3 ho3' hb4)
          go_ret
          rw [← HNf.out]
          exact wr_fin HG.out.1 HG.out.2 hbl.out HB4.out HST2.out hslt HT3.out.1 (fun g e => by cases e; exact HT3.out.2) HO3.out

end Go.Proofs.YtgidpknckbgmbaaGreatDoor
