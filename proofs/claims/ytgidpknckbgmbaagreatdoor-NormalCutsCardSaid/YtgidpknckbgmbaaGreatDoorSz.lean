/- (*props.reader).decomp: a line that is taken. How long a full decomposition is: plainly. -/
import Derived.Test.YtgidpknckbgmbaaGreatDoorDcp
set_option linter.unusedSimpArgs false
set_option linter.unusedVariables false
namespace Go.Proofs.YtgidpknckbgmbaaGreatDoor
open Go.RowKit
open Go.Maps (Keyed)

theorem IsMapBlk.ne_cell {w : World} {b g j : Nat} {v : Value} (h : IsMapBlk w b) (hc : w.cell? ⟨g, j, none⟩ = some v) : g ≠ b := by
  rintro rfl
  obtain ⟨es, c, h1⟩ := h
  unfold World.cell? at hc
  rw [h1] at hc
  cases hc
theorem turned_cell {w w' : World} {c g j : Nat} {v : Value} (hg : w.grownBy w' (some c)) (hm : IsMapBlk w c) (hc : w.cell? ⟨g, j, none⟩ = some v) : w'.cell? ⟨g, j, none⟩ = some v := by
  have hne := hm.ne_cell hc
  have hlt := World.block_lt_of_cell? _ _ hc
  have hb := hg.block g hlt (fun e => hne (by cases e; rfl))
  unfold World.cell? at hc ⊢
  rw [hb]
  exact hc
theorem grownBy_of_turned {w w' : World} {b : Nat} (h : w.drew.mapTurned w' b) : w.grownBy w' (some b) := by
  have hg := h.grown
  exact ⟨hg.os, hg.tape, hg.output, hg.size, hg.block⟩

theorem put_map (l : List (Int × Int)) (r line : Int) : (putKV l r line).map (fun p => (p.1, Value.int .i64 p.2)) = putKV (l.map fun p => (p.1, Value.int .i64 p.2)) r (Value.int .i64 line) := by
  induction l with
  | nil => rfl
  | cons p l ih => by_cases h : p.1 = r <;> simp [putKV, h, ih]

/-- What stands behind the two stores. -/
theorem dcp_lines {base : Nat} {k : Blks} {q : PP} {ln : List (Int × Int)} {line r : Int} {w w4 w5 : World} {cells : Nat → Int → Prop} {g : Nat} (R4 : Rd w4 base k q ln line) (hw : Below base w w4 ∧ RdKeeps k w w4) (hb : base ≤ w4.heap.size)
    (Q : ∀ j x, cells j x → w4.cell? ⟨g, j, none⟩ = some (.int .i32 x))
    (hm5 : MapIs Tryz.prog 21 (Value.int .i32) w5 k.bl (putKV (ln.map fun p => (p.1, Value.int .i64 p.2)) r (Value.int .i64 line))) (ht5 : w4.drew.mapTurned w5 k.bl) :
    Rd w5 base k q (putKV ln r line) line ∧ (Below base w w5 ∧ RdKeeps k w w5) ∧ (∀ j x, cells j x → w5.cell? ⟨g, j, none⟩ = some (.int .i32 x)) ∧ base ≤ w5.heap.size := by
  have hw45 := grownBy_of_turned ht5
  have hml := MapIs.blk R4.lines
  refine ⟨R4.put_line hw45 (by unfold LineMap; rw [put_map]; exact hm5), ⟨hw.1.trans (turned_below hw45 R4.old.2.2.1 hb), hw.2.trans (turned_keeps hw45 (by omega))⟩, fun j x hj => turned_cell hw45 hml (Q j x hj), Nat.le_trans hb hw45.size⟩

theorem getKV_map {α β γ : Type} [DecidableEq α] (f : β → γ) (l : List (α × β)) (a : α) : getKV (l.map fun p => (p.1, f p.2)) a = (getKV l a).map f := by
  induction l with
  | nil => rfl
  | cons p l ih => by_cases h : p.1 = a <;> simp [getKV, h, ih]

theorem dcp_drew {w5 w6 : World} {nq base : Nat} {k : Blks} {q : PP} {ln : List (Int × Int)} {line : Int} {g : Nat} {v1 v2 v3 v4 v5 : Value} {p1 p2 p3 p4 p5 : Addr} (R : Rd w6 base k q ln line) (hb : Below w5.heap.size w5 w6)
    (e0 : w6.cell? p1 = some v1) (e1 : w6.cell? p2 = some v2) (e2 : w6.cell? p3 = some v3) (e3 : w6.cell? p4 = some v4) (e4 : w6.cell? p5 = some v5) (hl : g < w6.heap.size) :
    Rd (w6.drewN nq) base k q ln line ∧ Below w5.heap.size w5 (w6.drewN nq) ∧ (w6.drewN nq).cell? p1 = some v1 ∧ (w6.drewN nq).cell? p2 = some v2 ∧ (w6.drewN nq).cell? p3 = some v3 ∧ (w6.drewN nq).cell? p4 = some v4 ∧ (w6.drewN nq).cell? p5 = some v5 ∧ g < (w6.drewN nq).heap.size :=
  ⟨R.below (below_drewN (Below.refl _ _) nq), below_drewN hb nq, e0, e1, e2, e3, e4, hl⟩

theorem put_mapP (l : List ((Int × Int) × Int)) (x : Int × Int) (r : Int) : (putKV l x r).map (fun p => (p.1, Value.int .i32 p.2)) = putKV (l.map fun p => (p.1, Value.int .i32 p.2)) x (Value.int .i32 r) := by
  induction l with
  | nil => rfl
  | cons p l ih => by_cases h : p.1 = x <;> simp [putKV, h, ih]

theorem dcp_put {base : Nat} {k : Blks} {q : PP} {ln : List (Int × Int)} {line r : Int} {x : Int × Int} {w w5 w7 w8 : World} (R7 : Rd w7 base k q ln line) (hw : Below base w w5 ∧ RdKeeps k w w5) (hb : base ≤ w5.heap.size) (h7 : Below w5.heap.size w5 w7)
    (hm8 : MapIs Tryz.prog 98 encPair w8 k.bt (putKV (q.pairs.map fun p => (p.1, Value.int .i32 p.2)) x (Value.int .i32 r))) (ht8 : w7.drew.mapTurned w8 k.bt) :
    Below base w w8 ∧ RdKeeps k w w8 ∧ Rd w8 base k { q with pairs := putKV q.pairs x r } ln line := by
  have hw78 := grownBy_of_turned ht8
  refine ⟨(hw.1.trans (h7.mono hb)).trans (turned_below hw78 R7.old.2.2.2.2.2 (Nat.le_trans hb h7.size)), (hw.2.trans (keeps_below h7)).trans (turned_keeps hw78 (by omega)), R7.put_pair hw78 ?_⟩
  unfold PairMap
  rw [put_mapP]
  exact hm8

set_option maxHeartbeats 1000000 in
set_option maxRecDepth 100000 in
theorem dcp_ok (base : Nat) (k : Blks) (q : PP) (ln : List (Int × Int)) (line : Int) (b cap : Nat) (ws : List ByteArray) (w : World) (hr : Rd w base k q ln line) (hbase : base ≤ w.heap.size) (hs : StrsAt w b 0 cap ws) (r : Int) (t : List Int) (h3 : someF ws = .ok (r :: t)) (h4 : getKV q.decomps r = none) (h5 : isSyl r = false) (h6 : isJamo r = false) :
    Calls Tryz.prog 28 #[.pointer (some ⟨k.rb, 0, none⟩), .slice (some ⟨b, 0, none⟩) ws.length cap] w (RdPost w base k ln line q (.ok (decQ q r t, putKV ln r line))) := by
  have hT := some_any b cap ws w hs
  obtain ⟨l1, l2, l3⟩ := someF_ok h3
  have hI32 := isChar_i32 (l3 r (by simp))
  have hIt : ∀ x ∈ t, I32 x := fun x hx => isChar_i32 (l3 x (by simp [hx]))
  rw [h3] at hT
  have HT := Lib.hid hT
  have HR := Lib.hid hr
  have HB := Lib.hid hbase
  have HIT := Lib.hid hIt
  simp only [List.length_cons] at l1 l2
  clear hT hs h3 hr l3 hbase hIt
  go_enter Tryz.func28, Tryz.ntmps28
  go_wp2_with (go_at_call 50; refine HT.out.mono ?_; rintro e w2 ⟨hb2, v, rfl, ho⟩)
  obtain ⟨g, cap2, rfl, q1, q2, q3, q4, q5, q6⟩ := ho.open_
  have R2 := HR.out.below hb2
  obtain ⟨vc, vk, r1, r2, r3, r4, r5⟩ := R2.ex
  obtain ⟨kv, m1, m2⟩ := R2.decs
  have hx := m2.get_none h4
  have d1 := r1.cell 0
  have d2 := r2.cell 3
  have d3 := q5 0 r rfl
  simp only [List.getElem?_toArray, List.getElem?_cons_zero, List.getElem?_cons_succ] at d1 d2
  have hlk := fun n => (m1.of_block (w' := w2.drewN n) rfl).look true kr Tryz.underlying50 (zeroRunes (w2.drewN n)) injR r (keyR hI32)
  rw [hx] at hlk
  simp only [lookVal, if_true] at hlk
  have Q5 := Lib.hid q5
  have Q6 := Lib.hid q6
  have M1 := Lib.hid m1
  have M2 := Lib.hid m2
  clear R2 r1 r2 r3 r4 r5 m1 m2 q5 q6 hx ho h4
  go_quiet (fail)
  clear hlk
  obtain ⟨w3, hw3⟩ : ∃ w3, w2.drewN nq = w3 := ⟨_, rfl⟩
  have hb3 : Below w2.heap.size w2 w3 := by rw [← hw3]; exact below_drewN (Below.refl _ _) nq
  have hh3 : w3.heap = w2.heap := by rw [← hw3]; rfl
  rw [hw3]
  have c1 : w3.cell? ⟨k.rb, 0, none⟩ = some (.pointer (some ⟨k.bp, 0, none⟩)) := (hb3.cell (World.block_lt_of_cell? _ _ d1)).trans d1
  have c2 : w3.cell? ⟨k.bp, 3, none⟩ = some (.map (some k.bd)) := (hb3.cell (World.block_lt_of_cell? _ _ d2)).trans d2
  have c3 : w3.cell? ⟨g, 0, none⟩ = some (.int .i32 r) := (hb3.cell (World.block_lt_of_cell? _ _ d3)).trans d3
  have hcap : ¬ cap2 = 1 := by omega
  have h1i : (1 : Int) ≤ (t.length : Int) + 1 := by omega
  have hbT := bt hb2 hb3
  have R3 := HR.out.below hbT
  have m3 := M1.out.of_block (w' := w3) (by rw [hh3])
  have q63 := (Q6.out.below hb3).more hb3.size
  have M23 := Lib.hid (M2.out.mono fun l v h => (⟨((h.1.below hb3).more hb3.size), h.2⟩ : RunesAt w3.heap.size w3 v l ∧ l ≠ [] ∧ l.length ≤ 8))
  have Q53 := Lib.hid (fun j x hj => (hb3.cell (World.block_lt_of_cell? _ _ (Q5.out j x hj))).trans (Q5.out j x hj))
  have R3H := Lib.hid R3
  have HB3 := Lib.hid hbT
  have Q63 := Lib.hid q63
  have q33 : g < w3.heap.size := Nat.lt_of_lt_of_le q3 hb3.size
  clear hw3 hh3 d1 d2 d3 R3 hb3 hbT hb2 q3 q4 q63
  clear M1 M2 Q5 Q6
  go_wp2_with (first
    | (go_at_call 51; refine (syllable_any _ _).mono ?_; rintro e w' ⟨rfl, rfl⟩)
    | (go_at_call 52; refine (jamo_any _ _).mono ?_; rintro e w' ⟨rfl, rfl⟩))
  go_still_tail 12, (by kernel_rfl)
  change wpList _ _ _ _ _ w3.drew
  go_wp2_with (at_mapUpdate; refine wpList_mapUpdate_is _ rfl _ _ _ 50 rfl 21 22 kr Tryz.underlying50 (Value.int .i32) injR k.bd kv rfl m3.drew r (.slice (some ⟨g, 1, none⟩) t.length (cap2 - 1)) _ rfl rfl (keyR hI32) ?_; intro w4 hm4 ht4)
  have hw34 := grownBy_of_turned ht4
  have hmd := R3H.out.decs.blk
  have hB3 := HB3.out
  have hbase3 : base ≤ w3.heap.size := Nat.le_trans HB.out hB3.size
  have hrel : RelKV (fun l v => RunesAt w4.heap.size w4 v l ∧ l ≠ [] ∧ l.length ≤ 8) q.decomps kv := M23.out.mono fun l v h =>
    ⟨(h.1.turned hw34 hmd (Nat.le_refl _)).more hw34.size, h.2⟩
  have R4 := R3H.out.put_dec hw34 ⟨_, hm4, hrel.put r ⟨(Q63.out.turned hw34 hmd (Nat.le_refl _)).more hw34.size, by intro e; rw [e] at l1; simp at l1, by omega⟩⟩
  have HW4 := Lib.hid (show Below base w w4 ∧ RdKeeps k w w4 ∧ w3.heap.size ≤ w4.heap.size from ⟨(hB3.mono HB.out).trans (turned_below hw34 R3H.out.old.2.2.2.2.1 hbase3), (keeps_below hB3).trans (turned_keeps hw34 (by omega)), hw34.size⟩)
  have Q54 := Lib.hid (fun j x hj => turned_cell hw34 hmd (Q53.out j x hj))
  have q34 : g < w4.heap.size := Nat.lt_of_lt_of_le q33 hw34.size
  have R4H := Lib.hid R4
  obtain ⟨vc4, vk4, r1, r2, r3, r4, r5⟩ := R4.ex
  have m4 := R4.lines
  have d1 := r1.cell 0
  have d2 := r1.cell 1
  have d4 := r1.cell 2
  have d3 := Q54.out 0 r rfl
  simp only [List.getElem?_toArray, List.getElem?_cons_zero, List.getElem?_cons_succ] at d1 d2 d4
  have M4 := Lib.hid m4
  clear R4 r1 r2 r3 r4 r5 hw34 hmd hB3 hbase3 hrel hm4 ht4 M23 Q53 Q63 m3 c1 c2 c3 q33 m4
  go_wp2_with fail
  go_still_tail 11, (by kernel_rfl)
  change wpList _ _ _ _ _ w4.drew
  go_wp2_with (at_mapUpdate; refine wpList_mapUpdate_is _ rfl _ _ _ 55 rfl 21 3 kr Tryz.underlying55 (Value.int .i32) injR k.bl _ rfl (MapIs.drew M4.out) r (.int .i64 line) _ rfl rfl (keyR hI32) ?_; intro w5 hm5 ht5)
  all_goals
    obtain ⟨R5, hw5, q55, hb5⟩ := dcp_lines R4H.out ⟨HW4.out.1, HW4.out.2.1⟩ (Nat.le_trans HB.out (Nat.le_trans HB3.out.size HW4.out.2.2)) Q54.out hm5 ht5
    have R5H := Lib.hid R5
    have HW5 := Lib.hid hw5
    have Q55 := Lib.hid q55
    clear R5 hw5 q55 HW4 Q54 hm5 ht5 M4 d1 d2 d3 d4 R4H HB3 HR HT
  · rename_i K1 hK1 hl3 K2 hK2
    have hlen : t.length = 2 := by simp at hl3; omega
    clear hl3
    match t, hlen with
    | [a, b2], _ =>
    have c0 := Q55.out 0 r rfl
    have c1 := Q55.out 1 a rfl
    have c2 := Q55.out 2 b2 rfl
    have g5 : g < w5.heap.size := World.block_lt_of_cell? _ _ c0
    go_region
    have hlt5 : w5.heap.size < (w5.alloc (.cells #[.int .i32 a, .int .i32 b2] 98)).drew.heap.size := by simp
    have e0 : (w5.alloc (.cells #[.int .i32 a, .int .i32 b2] 98)).drew.cell? ⟨w5.heap.size, 0, none⟩ = some (.int .i32 a) := (IsBlk.new w5 98 #[.int .i32 a, .int .i32 b2]).cell 0
    have e1 : (w5.alloc (.cells #[.int .i32 a, .int .i32 b2] 98)).drew.cell? ⟨w5.heap.size, 1, none⟩ = some (.int .i32 b2) := (IsBlk.new w5 98 #[.int .i32 a, .int .i32 b2]).cell 1
    have hb6 : Below w5.heap.size w5 (w5.alloc (.cells #[.int .i32 a, .int .i32 b2] 98)).drew := ((Below.refl _ w5).alloc (Nat.le_refl _) _).drew
    refine hK2 _ _ ?_
    clear hK2 K2
    generalize (w5.alloc (.cells #[.int .i32 a, .int .i32 b2] 98)).drew = w6 at hlt5 e0 e1 hb6 ⊢
    have R6 := R5H.out.below hb6
    have f0 := (hb6.cell (World.block_lt_of_cell? _ _ c0)).trans c0
    obtain ⟨vc6, vk6, r1, r2, r3, r4, r5⟩ := R6.ex
    have d1 := r1.cell 0
    have d2 := r2.cell 4
    simp only [List.getElem?_toArray, List.getElem?_cons_zero, List.getElem?_cons_succ] at d1 d2
    have hIa : I32 a := HIT.out a (by simp)
    have hIb : I32 b2 := HIT.out b2 (by simp)
    have hlk := fun n => (MapIs.of_block (w' := w6.drewN n) R6.pairs rfl).look true kp Tryz.underlying51 (zeroRune (w6.drewN n)) injP (a, b2) (keyP hIa hIb)
    have R6H := Lib.hid R6
    have HB6 := Lib.hid hb6
    clear R6 r1 r2 r3 r4 r5 hb6 c0 c1 c2
    have ee : encPair (a, b2) = .agg #[.int .i32 a, .int .i32 b2] := rfl
    simp only [ee] at hlk
    rw [getKV_map] at hlk
    cases hgo : getKV q.pairs (a, b2) with
    | none =>
      rw [hgo] at hlk
      simp only [Option.map_none, lookVal, if_true] at hlk
      clear ee
      go_wp2_with fail
      go_quiet (fail)
      obtain ⟨R7, HB7, e0', e1', f0', d1', d2', L7⟩ := dcp_drew (nq := nq) R6H.out HB6.out e0 e1 f0 d1 d2 hlt5
      generalize w6.drewN nq = w7 at R7 HB7 e0' e1' f0' d1' d2' L7 ⊢
      clear hlk e0 e1 f0 d1 d2 hlt5 R6H HB6
      have P7 := Lib.hid R7.pairs
      have R7H := Lib.hid R7
      have HB7H := Lib.hid HB7
      have HGO := Lib.hid hgo
      clear R7 HB7 hgo
      go_wp2_with fail
      go_still_tail 11, (by kernel_rfl)
      change wpList _ _ _ _ _ w7.drew
      go_wp2_with (at_mapUpdate; refine wpList_mapUpdate_is _ rfl _ _ _ 51 rfl 98 21 kp Tryz.underlying51 encPair injP k.bt _ rfl (MapIs.drew P7.out) (a, b2) (.int .i32 r) _ rfl rfl (keyP hIa hIb) ?_; intro w8 hm8 ht8)
      go_ret
      have hq : pairQ q.pairs r [a, b2] = putKV q.pairs (a, b2) r := by unfold pairQ; simp only [HGO.out]
      unfold decQ
      rw [hq]
      obtain ⟨z1, z2, z3⟩ := dcp_put R7H.out HW5.out hb5 HB7H.out hm8 ht8
      exact ⟨z1, z2, rfl, z3⟩
    | some o =>
      rw [hgo] at hlk
      simp only [Option.map_some, lookVal, if_true] at hlk
      clear ee
      go_wp2_with fail
      go_quiet (fail)
      obtain ⟨R7, HB7, e0', e1', f0', d1', d2', L7⟩ := dcp_drew (nq := nq) R6H.out HB6.out e0 e1 f0 d1 d2 hlt5
      generalize w6.drewN nq = w7 at R7 HB7 e0' e1' f0' d1' d2' L7 ⊢
      clear hlk e0 e1 f0 d1 d2 hlt5 R6H HB6
      have P7 := Lib.hid R7.pairs
      have R7H := Lib.hid R7
      have HB7H := Lib.hid HB7
      have HGO := Lib.hid hgo
      clear R7 HB7 hgo
      by_cases hro : r < o
      · go_wp2_with fail
        go_still_tail 11, (by kernel_rfl)
        change wpList _ _ _ _ _ w7.drew
        go_wp2_with (at_mapUpdate; refine wpList_mapUpdate_is _ rfl _ _ _ 51 rfl 98 21 kp Tryz.underlying51 encPair injP k.bt _ rfl (MapIs.drew P7.out) (a, b2) (.int .i32 r) _ rfl rfl (keyP hIa hIb) ?_; intro w8 hm8 ht8)
        go_ret
        have hq : pairQ q.pairs r [a, b2] = putKV q.pairs (a, b2) r := by unfold pairQ; simp only [HGO.out, if_pos hro]
        unfold decQ
        rw [hq]
        obtain ⟨z1, z2, z3⟩ := dcp_put R7H.out HW5.out hb5 HB7H.out hm8 ht8
        exact ⟨z1, z2, rfl, z3⟩
      · go_wp2
        go_ret
        have hq : pairQ q.pairs r [a, b2] = q.pairs := by unfold pairQ; simp only [HGO.out, if_neg (Int.not_lt.2 hro)]
        unfold decQ
        rw [hq]
        exact ⟨HW5.out.1.trans (HB7H.out.mono hb5), HW5.out.2.trans (keeps_below HB7H.out), rfl, R7H.out⟩
  · go_ret
    rename_i hl3
    have hlen : ¬ t.length = 2 := fun e => by rw [e] at hl3; cases hl3
    refine ⟨HW5.out.1, HW5.out.2, rfl, ?_⟩
    have : pairQ q.pairs r t = q.pairs := by
      unfold pairQ
      match t, hlen with
      | [], _ => rfl
      | [_], _ => rfl
      | _ :: _ :: _ :: _, _ => rfl
    unfold decQ
    rw [this]
    exact R5H.out

theorem dcp_any (base : Nat) (k : Blks) (q : PP) (ln : List (Int × Int)) (line : Int) (b cap : Nat) (ws : List ByteArray) (w : World) (hr : Rd w base k q ln line) (hbase : base ≤ w.heap.size) (hs : StrsAt w b 0 cap ws) :
    Calls Tryz.prog 28 #[.pointer (some ⟨k.rb, 0, none⟩), .slice (some ⟨b, 0, none⟩) ws.length cap] w (RdPost w base k ln line q (dcpF q ln line ws)) := by
  cases h3 : someF ws with
  | error n =>
    have e : dcpF q ln line ws = .error n := by unfold dcpF; rw [h3]
    rw [e]
    exact dcp_err base k q ln line b cap ws w hr hbase hs n h3
  | ok l =>
    obtain ⟨l1, _, _⟩ := someF_ok h3
    cases l with
    | nil => simp at l1
    | cons r t =>
      cases h4 : getKV q.decomps r with
      | none =>
        cases h5 : isSyl r || isJamo r with
        | true =>
          have e : dcpF q ln line ws = .error 1 := by unfold dcpF; rw [h3]; simp only [h4, h5]; rfl
          rw [e]
          exact dcp_arg base k q ln line b cap ws w hr hbase hs r t h3 h4 h5
        | false =>
          have e : dcpF q ln line ws = .ok (decQ q r t, putKV ln r line) := by unfold dcpF; rw [h3]; simp only [h4, h5]; rfl
          rw [e]
          rw [Bool.or_eq_false_iff] at h5
          exact dcp_ok base k q ln line b cap ws w hr hbase hs r t h3 h4 h5.1 h5.2
      | some x =>
        have e : dcpF q ln line ws = .error 13 := by unfold dcpF; rw [h3]; simp [h4]
        rw [e]
        exact dcp_twice base k q ln line b cap ws w hr hbase hs r t h3 (by rw [h4]; rfl)

end Go.Proofs.YtgidpknckbgmbaaGreatDoor

namespace Go.Proofs.YtgidpknckbgmbaaGreatDoor
open Go.RowKit

abbrev KN := List (Int × Int)
def sizeL (f : KN → Int → KN × Int) : List Int → KN → Int → KN × Option Int
  | [], kn, s => (kn, some s)
  | x :: xs, kn, s => if (f kn x).2 = 0 then ((f kn x).1, none) else sizeL f xs (f kn x).1 (min (s + (f kn x).2) 9)
def sizeE (r : Int) : KN × Option Int → KN × Int
  | (kn', some s) => (putKV kn' r s, s)
  | (kn', none) => (kn', 0)
def sizeF (q : PP) : Nat → KN → Int → KN × Int
  | 0, kn, _ => (kn, 0)
  | n + 1, kn, r =>
    match getKV kn r with
    | some v => (kn, max v (1 - ((q.dec r).length : Int)))
    | none =>
      if q.dec r = [] then (kn, 1)
      else sizeE r (sizeL (sizeF q n) (q.dec r) (putKV kn r 0) 0)

/-- The keys of decompositions that are not known yet. -/
def freeN (l : List (Int × List Int)) (kn : KN) : Nat := match l with
  | [] => 0
  | p :: l => (if (getKV kn p.1).isNone then 1 else 0) + freeN l kn
theorem freeN_le (l : List (Int × List Int)) (kn : KN) : freeN l kn ≤ l.length := by
  induction l with
  | nil => simp [freeN]
  | cons p l ih => unfold freeN; simp only [List.length_cons]; split <;> omega
theorem freeN_put (l : List (Int × List Int)) (kn : KN) (a v : Int) : freeN l (putKV kn a v) ≤ freeN l kn := by
  induction l with
  | nil => simp [freeN]
  | cons p l ih =>
    unfold freeN
    by_cases h : p.1 = a
    · rw [h, getKV_put_same]; simp; omega
    · rw [getKV_put_other _ _ h]; omega
theorem freeN_put_lt (l : List (Int × List Int)) (kn : KN) (a v : Int) (ha : ∃ p ∈ l, p.1 = a) (hn : getKV kn a = none) : freeN l (putKV kn a v) + 1 ≤ freeN l kn := by
  induction l with
  | nil => simp at ha
  | cons p l ih =>
    unfold freeN
    by_cases h : p.1 = a
    · have := freeN_put l kn a v
      rw [h, getKV_put_same, hn]; simp; omega
    · obtain ⟨p', hp', e⟩ := ha
      rcases List.mem_cons.1 hp' with rfl | hp'
      · exact absurd e h
      · have := ih ⟨p', hp', e⟩
        rw [getKV_put_other _ _ h]; omega

def InR (kn : KN) : Prop := ∀ p ∈ kn, 0 ≤ p.2 ∧ p.2 ≤ 9
theorem InR.put {kn : KN} (h : InR kn) {a v : Int} (hv : 0 ≤ v ∧ v ≤ 9) : InR (putKV kn a v) := by
  induction kn with
  | nil => intro p hp; simp [putKV] at hp; subst hp; exact hv
  | cons p kn ih =>
    intro x hx
    by_cases e : p.1 = a
    · simp [putKV, e] at hx
      rcases hx with rfl | hx
      · exact hv
      · exact h x (List.mem_cons_of_mem _ hx)
    · simp [putKV, e] at hx
      rcases hx with rfl | hx
      · exact h _ (by simp)
      · exact ih (fun y hy => h y (List.mem_cons_of_mem _ hy)) x hx
theorem InR.get {kn : KN} (h : InR kn) {a v : Int} (hv : getKV kn a = some v) : 0 ≤ v ∧ v ≤ 9 := h _ (getKV_mem hv)

/-- What a step of reckoning keeps. -/
def Good (q : PP) (kn : KN) (o : KN × Int) : Prop := InR o.1 ∧ (0 ≤ o.2 ∧ o.2 ≤ 9) ∧ freeN q.decomps o.1 ≤ freeN q.decomps kn
theorem sizeL_good (q : PP) (f : KN → Int → KN × Int) (hf : ∀ kn x, InR kn → Good q kn (f kn x)) : ∀ (xs : List Int) (kn : KN) (s : Int), InR kn → 0 ≤ s ∧ s ≤ 9 → InR (sizeL f xs kn s).1 ∧ (∀ v, (sizeL f xs kn s).2 = some v → 0 ≤ v ∧ v ≤ 9) ∧ freeN q.decomps (sizeL f xs kn s).1 ≤ freeN q.decomps kn
  | [], kn, s, hk, hs => ⟨hk, (fun v hv => by simp [sizeL] at hv; omega), Nat.le_refl _⟩
  | x :: xs, kn, s, hk, hs => by
    obtain ⟨g1, g2, g3⟩ := hf kn x hk
    unfold sizeL
    split
    · exact ⟨g1, (fun v hv => by cases hv), g3⟩
    · obtain ⟨h1, h2, h3⟩ := sizeL_good q f hf xs (f kn x).1 (min (s + (f kn x).2) 9) g1 (by omega)
      exact ⟨h1, h2, Nat.le_trans h3 g3⟩
theorem sizeF_good (q : PP) : ∀ (n : Nat) (kn : KN) (r : Int), InR kn → Good q kn (sizeF q n kn r)
  | 0, kn, r, hk => ⟨hk, by simp [sizeF], Nat.le_refl _⟩
  | n + 1, kn, r, hk => by
    unfold sizeF
    cases hg : getKV kn r with
    | some v =>
      have := hk.get hg
      exact ⟨hk, by simp only; omega, Nat.le_refl _⟩
    | none =>
      simp only
      split
      · exact ⟨hk, by simp, Nat.le_refl _⟩
      · obtain ⟨h1, h2, h3⟩ := sizeL_good q (sizeF q n) (sizeF_good q n) (q.dec r) (putKV kn r 0) 0 (hk.put (by omega)) (by omega)
        have h4 := freeN_put q.decomps kn r 0
        generalize sizeL (sizeF q n) (q.dec r) (putKV kn r 0) 0 = o at h1 h2 h3 ⊢
        obtain ⟨kn', s | s⟩ := o
        rotate_left
        · show Good q kn (putKV kn' r s, s)
          have h5 := freeN_put q.decomps kn' r s
          exact ⟨h1.put (h2 s rfl), h2 s rfl, by simp only at *; omega⟩
        · show Good q kn (kn', 0)
          exact ⟨h1, by simp, by simp only at *; omega⟩

/-- How deep the reckoning may go. -/
def need (q : PP) (kn : KN) (r : Int) : Nat := 2 * freeN q.decomps kn + 1 + (if isSyl r then 1 else 0)
theorem need_le (q : PP) (kn : KN) (r : Int) : need q kn r ≤ 2 * q.decomps.length + 2 := by
  have := freeN_le q.decomps kn
  unfold need
  split <;> omega
theorem sylD_jamo {r : Int} (h : isSyl r = true) : ∀ x ∈ sylD r, isSyl x = false ∧ I32 x := by
  unfold isSyl at h
  simp at h
  intro x hx
  unfold sylD at hx
  have : 4352 ≤ x ∧ x < 5000 := by
    split at hx <;> simp at hx <;> omega
  refine ⟨by unfold isSyl; simp; omega, by unfold I32; omega⟩
theorem need_child (q : PP) {kn : KN} {r : Int} {n : Nat} (hn : need q kn r ≤ n + 1) (hg : getKV kn r = none) (hd : q.dec r ≠ []) {kn' : KN} (hk : freeN q.decomps kn' ≤ freeN q.decomps (putKV kn r 0)) {x : Int} (hx : x ∈ q.dec r) : need q kn' x ≤ n := by
  unfold need at hn ⊢
  unfold PP.dec at hd hx
  cases hs : isSyl r with
  | true =>
    rw [hs] at hn hd hx
    have h1 := (sylD_jamo hs x (by simpa using hx)).1
    have h2 := freeN_put q.decomps kn r 0
    rw [h1]
    simp at hn ⊢
    omega
  | false =>
    rw [hs] at hn hd hx
    simp only [Bool.false_eq_true, if_false] at hd hx
    have : ∃ p ∈ q.decomps, p.1 = r := by
      cases hp : getKV q.decomps r with
      | none => rw [hp] at hd; simp at hd
      | some l => exact ⟨_, getKV_mem hp, rfl⟩
    have h2 := freeN_put_lt q.decomps kn r 0 this hg
    simp at hn
    split <;> omega

end Go.Proofs.YtgidpknckbgmbaaGreatDoor
