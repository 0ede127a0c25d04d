/- (*props.reader).fold: a line of fold. (*props.reader).decomp: a line of decomp. -/
import Derived.Test.YtgidpknckbgmbaaGreatDoorCls
import Derived.Test.YtgidpknckbgmbaaGreatDoorRd2
import Derived.StillTailTactics
import Derived.WideKeyPair
import Derived.DeepKeys4
set_option linter.unusedSimpArgs false
set_option linter.unusedVariables false
namespace Go.Proofs.YtgidpknckbgmbaaGreatDoor
open Go.RowKit

def foldF (q : PP) (ln : List (Int × Int)) (ws : List ByteArray) : Except Int (PP × List (Int × Int)) :=
  match someF ws with
  | .error n => .error n
  | .ok [] => .error 0
  | .ok (r :: t) => if (getKV q.folds r).isSome then .error 13 else .ok ({ q with folds := putKV q.folds r t }, ln)

theorem someF_ok {ws : List ByteArray} {l : List Int} (h : someF ws = .ok l) : 2 ≤ l.length ∧ l.length ≤ 9 ∧ ∀ x ∈ l, isChar x = true := by
  unfold someF at h
  split at h
  · cases h
  · split at h
    · cases h
    · obtain ⟨h1, h2⟩ := ptsF_len h
      simp at h1
      exact ⟨by omega, by omega, h2⟩

set_option maxHeartbeats 400000 in
set_option maxRecDepth 100000 in
theorem fold_err (base : Nat) (k : Blks) (q : PP) (ln : List (Int × Int)) (line : Int) (b cap : Nat) (ws : List ByteArray) (w : World) (hr : Rd w base k q ln line) (hbase : base ≤ w.heap.size) (hs : StrsAt w b 0 cap ws) (n : Int) (h3 : someF ws = .error n) :
    Calls Tryz.prog 27 #[.pointer (some ⟨k.rb, 0, none⟩), .slice (some ⟨b, 0, none⟩) ws.length cap] w (RdPost w base k ln line q (.error n)) := by
  have hT := some_any b cap ws w hs
  rw [h3] at hT
  have HT := Lib.hid hT
  have HR := Lib.hid hr
  clear hT hs h3 hr
  go_enter Tryz.func27, Tryz.ntmps27
  go_wp2_with (go_at_call 50; refine HT.out.mono ?_; rintro e w2 ⟨hb2, rfl⟩; unfold errV)
  go_ret
  exact ⟨hb2.mono hbase, keeps_below hb2, rfl, HR.out.below hb2⟩

/-- The points of a line as the slice that was handed back: its block, the points' cells, and the slice behind the first. -/
theorem OwnRunes.open_ {base : Nat} {w : World} {v : Value} {r : Int} {t : List Int} (h : OwnRunes base w v (r :: t)) : ∃ g cap, v = .slice (some ⟨g, 0, none⟩) (t.length + 1) cap ∧ t.length + 1 ≤ cap ∧ cap ≤ maxLen ∧ g < w.heap.size ∧ base ≤ g ∧
    (∀ j x, (r :: t)[j]? = some x → w.cell? ⟨g, j, none⟩ = some (.int .i32 x)) ∧ RunesAt w.heap.size w (.slice (some ⟨g, 0 + 1, none⟩) t.length (cap - 1)) t := by
  obtain ⟨h1, ⟨_, h2⟩ | ⟨g, cap, cur, rfl, hb, hg, hc, hm, hs, ht⟩⟩ := h
  · simp at h2
  · have hcell : ∀ j x, (r :: t)[j]? = some x → cur[j]? = some (Value.int .i32 x) := fun j x hj => by
      have hjl : j < (r :: t).length := (List.getElem?_eq_some_iff.1 hj).1
      have : (cur.toList.take ((r :: t).length * 1))[j]? = some (Value.int .i32 x) := by rw [ht, List.getElem?_map, hj]; rfl
      rw [List.getElem?_take, if_pos (by omega)] at this
      simpa using this
    refine ⟨g, cap, rfl, hc, hm, (Array.getElem?_eq_some_iff.1 hg).1, hb, fun j x hj => by unfold World.cell?; rw [hg]; exact hcell j x hj, .inr ⟨g, 0 + 1, cap - 1, cur, (0, 0), rfl, by simp at hc; omega, by omega, (Array.getElem?_eq_some_iff.1 hg).1, hg, fun j x hj => ?_⟩⟩
    have := hcell (j + 1) x (by simpa using hj)
    rw [show 0 + 1 + j = j + 1 by omega]
    exact this

set_option maxHeartbeats 1000000 in
set_option maxRecDepth 100000 in
theorem fold_twice (base : Nat) (k : Blks) (q : PP) (ln : List (Int × Int)) (line : Int) (b cap : Nat) (ws : List ByteArray) (w : World) (hr : Rd w base k q ln line) (hbase : base ≤ w.heap.size) (hs : StrsAt w b 0 cap ws) (r : Int) (t : List Int) (h3 : someF ws = .ok (r :: t)) (h4 : (getKV q.folds r).isSome = true) :
    Calls Tryz.prog 27 #[.pointer (some ⟨k.rb, 0, none⟩), .slice (some ⟨b, 0, none⟩) ws.length cap] w (RdPost w base k ln line q (.error 13)) := by
  have hT := some_any b cap ws w hs
  obtain ⟨l1, l2, l3⟩ := someF_ok h3
  have hI32 := isChar_i32 (l3 r (by simp))
  rw [h3] at hT
  have HT := Lib.hid hT
  have HR := Lib.hid hr
  simp only [List.length_cons] at l1 l2
  clear hT hs h3 hr l3
  go_enter Tryz.func27, Tryz.ntmps27
  go_wp2_with (go_at_call 50; refine HT.out.mono ?_; rintro e w2 ⟨hb2, v, rfl, ho⟩)
  obtain ⟨g, cap2, rfl, q1, q2, q3, q4, q5, q6⟩ := ho.open_
  have R2 := HR.out.below hb2
  obtain ⟨vc, vk, r1, r2, r3, r4, r5⟩ := R2.ex
  obtain ⟨kv, m1, m2⟩ := R2.folds
  obtain ⟨x, hx⟩ := Option.isSome_iff_exists.1 h4
  obtain ⟨v', hv', _⟩ := m2.get_some hx
  have d1 := r1.cell 0
  have d2 := r2.cell 2
  have d3 := q5 0 r rfl
  simp only [List.getElem?_toArray, List.getElem?_cons_zero, List.getElem?_cons_succ] at d1 d2
  have hlk := fun n => (m1.of_block (w' := w2.drewN n) rfl).look true kr Tryz.underlying50 (zeroRunes (w2.drewN n)) injR r (keyR hI32)
  rw [hv'] at hlk
  simp only [lookVal, if_true] at hlk
  have R2H := Lib.hid R2
  clear R2 r1 r2 r3 r4 r5 m1 m2 q5 q6 hx hv' ho
  go_quiet (fail)
  go_wp2
  go_ret
  have hb3 : Below w.heap.size w (w2.drewN nq) := below_drewN hb2 nq
  exact ⟨hb3.mono hbase, keeps_below hb3, rfl, HR.out.below hb3⟩

set_option maxHeartbeats 1000000 in
set_option maxRecDepth 100000 in
theorem fold_ok (base : Nat) (k : Blks) (q : PP) (ln : List (Int × Int)) (line : Int) (b cap : Nat) (ws : List ByteArray) (w : World) (hr : Rd w base k q ln line) (hbase : base ≤ w.heap.size) (hs : StrsAt w b 0 cap ws) (r : Int) (t : List Int) (h3 : someF ws = .ok (r :: t)) (h4 : getKV q.folds r = none) :
    Calls Tryz.prog 27 #[.pointer (some ⟨k.rb, 0, none⟩), .slice (some ⟨b, 0, none⟩) ws.length cap] w (RdPost w base k ln line q (.ok ({ q with folds := putKV q.folds r t }, ln))) := by
  have hT := some_any b cap ws w hs
  obtain ⟨l1, l2, l3⟩ := someF_ok h3
  have hI32 := isChar_i32 (l3 r (by simp))
  rw [h3] at hT
  have HT := Lib.hid hT
  have HR := Lib.hid hr
  simp only [List.length_cons] at l1 l2
  have HB := Lib.hid hbase
  clear hT hs h3 hr l3 hbase
  go_enter Tryz.func27, Tryz.ntmps27
  go_wp2_with (go_at_call 50; refine HT.out.mono ?_; rintro e w2 ⟨hb2, v, rfl, ho⟩)
  obtain ⟨g, cap2, rfl, q1, q2, q3, q4, q5, q6⟩ := ho.open_
  have R2 := HR.out.below hb2
  obtain ⟨vc, vk, r1, r2, r3, r4, r5⟩ := R2.ex
  obtain ⟨kv, m1, m2⟩ := R2.folds
  have hx := m2.get_none h4
  have d1 := r1.cell 0
  have d2 := r2.cell 2
  have d3 := q5 0 r rfl
  simp only [List.getElem?_toArray, List.getElem?_cons_zero, List.getElem?_cons_succ] at d1 d2
  have hlk := fun n => (m1.of_block (w' := w2.drewN n) rfl).look true kr Tryz.underlying50 (zeroRunes (w2.drewN n)) injR r (keyR hI32)
  rw [hx] at hlk
  simp only [lookVal, if_true] at hlk
  have R2H := Lib.hid R2
  have Q6 := Lib.hid q6
  have M1 := Lib.hid m1
  have M2 := Lib.hid m2
  have H4 := Lib.hid h4
  clear R2 r1 r2 r3 r4 r5 m1 m2 q5 q6 hx ho h4
  go_quiet (fail)
  clear hlk
  go_wp2_with fail
  obtain ⟨w3, hw3⟩ : ∃ w3, w2.drewN nq = w3 := ⟨_, rfl⟩
  have hb3 : Below w2.heap.size w2 w3 := by rw [← hw3]; exact below_drewN (Below.refl _ _) nq
  have hh3 : w3.heap = w2.heap := by rw [← hw3]; rfl
  rw [hw3]
  have c1 : w3.cell? ⟨k.rb, 0, none⟩ = some (.pointer (some ⟨k.bp, 0, none⟩)) := (hb3.cell (World.block_lt_of_cell? _ _ d1)).trans d1
  have c2 : w3.cell? ⟨k.bp, 2, none⟩ = some (.map (some k.bf)) := (hb3.cell (World.block_lt_of_cell? _ _ d2)).trans d2
  have c3 : w3.cell? ⟨g, 0, none⟩ = some (.int .i32 r) := (hb3.cell (World.block_lt_of_cell? _ _ d3)).trans d3
  have hcap : ¬ cap2 = 1 := by omega
  have h1i : (1 : Int) ≤ (t.length : Int) + 1 := by omega
  have hbT := bt hb2 hb3
  have R3 := HR.out.below hbT
  have m3 := M1.out.of_block (w' := w3) (by rw [hh3])
  have R3H := Lib.hid R3
  have HB3 := Lib.hid hbT
  have Q3 := Lib.hid (Q6.out.below hb3)
  have Q3BH := Lib.hid hb3
  clear hw3 hh3 d1 d2 d3 R3 hb3 hbT hb2 q3 q4
  go_still_tail 12, (by kernel_rfl)
  change wpList _ _ _ _ _ w3.drew
  go_wp2_with (at_mapUpdate; refine wpList_mapUpdate_is _ rfl _ _ _ 50 rfl 21 22 kr Tryz.underlying50 (Value.int .i32) injR k.bf kv rfl m3.drew r (.slice (some ⟨g, 1, none⟩) t.length (cap2 - 1)) _ rfl rfl (keyR hI32) ?_; intro w4 hm4 ht4)
  go_ret
  have hg4 := ht4.grown
  have hm := R3H.out.folds.blk
  have hB3 := HB3.out
  have hd3 : Below w3.heap.size w3 w3.drew := (Below.refl _ _).drew
  have hbase3 : base ≤ w3.heap.size := Nat.le_trans HB.out hB3.size
  have hw34 : w3.grownBy w4 (some k.bf) := ⟨hg4.os, hg4.tape, hg4.output, hg4.size, hg4.block⟩
  refine ⟨(hB3.mono HB.out).trans (turned_below hw34 R3H.out.old.2.2.2.1 hbase3), (keeps_below hB3).trans (turned_keeps hw34 (by omega)), rfl, ?_⟩
  have hrel : RelKV (fun l v => RunesAt w4.heap.size w4 v l ∧ l ≠ [] ∧ l.length ≤ 8) q.folds kv := M2.out.mono fun l v h =>
    ⟨(((h.1.below (Q3BH.out)).more Q3BH.out.size).turned hw34 hm (Nat.le_refl _)).more hw34.size, h.2⟩
  exact R3H.out.put_fold hw34 ⟨_, hm4, hrel.put r ⟨(((Q3.out).more Q3BH.out.size).turned hw34 hm (Nat.le_refl _)).more hw34.size, by intro e; rw [e] at l1; simp at l1, by omega⟩⟩

theorem fold_any (base : Nat) (k : Blks) (q : PP) (ln : List (Int × Int)) (line : Int) (b cap : Nat) (ws : List ByteArray) (w : World) (hr : Rd w base k q ln line) (hbase : base ≤ w.heap.size) (hs : StrsAt w b 0 cap ws) :
    Calls Tryz.prog 27 #[.pointer (some ⟨k.rb, 0, none⟩), .slice (some ⟨b, 0, none⟩) ws.length cap] w (RdPost w base k ln line q (foldF q ln ws)) := by
  cases h3 : someF ws with
  | error n =>
    have e : foldF q ln ws = .error n := by unfold foldF; rw [h3]
    rw [e]
    exact fold_err base k q ln line b cap ws w hr hbase hs n h3
  | ok l =>
    obtain ⟨l1, _, _⟩ := someF_ok h3
    cases l with
    | nil => simp at l1
    | cons r t =>
      cases h4 : getKV q.folds r with
      | none =>
        have e : foldF q ln ws = .ok ({ q with folds := putKV q.folds r t }, ln) := by unfold foldF; rw [h3]; simp [h4]
        rw [e]
        exact fold_ok base k q ln line b cap ws w hr hbase hs r t h3 h4
      | some x =>
        have e : foldF q ln ws = .error 13 := by unfold foldF; rw [h3]; simp [h4]
        rw [e]
        exact fold_twice base k q ln line b cap ws w hr hbase hs r t h3 (by rw [h4]; rfl)

end Go.Proofs.YtgidpknckbgmbaaGreatDoor

namespace Go.Proofs.YtgidpknckbgmbaaGreatDoor
open Go.RowKit
open Go.Maps (Keyed)

theorem laidOut : laidOutB Tryz.prog = true := by kernel_rfl
theorem kp : Keyed Tryz.prog 98 := Keyed.of_law (deep_law_laid (m := 3) laidOut (by decide) (of_decide_eq_true (by kernel_rfl)) (by kernel_rfl) (by kernel_rfl))
theorem arrP : WideMaps.ArrKey Tryz.prog 98 21 2 := ⟨Tryz.underlying98, by kernel_rfl, by kernel_rfl, by kernel_rfl⟩
theorem typesN : ∃ m, Tryz.prog.types.size = m + 1 := ⟨Tryz.prog.types.size - 1, by kernel_rfl⟩
theorem keyP {a b : Int} (ha : I32 a) (hb : I32 b) : keyOf Tryz.prog 98 (encPair (a, b)) = some (.string (keyBytes [.int .i32 a, .int .i32 b])) :=
  WideMaps.keyOf_pair arrP Tryz.underlying21 typesN ha.wf hb.wf
theorem injP : ∀ x y : Int × Int, encPair x = encPair y → x = y := by
  rintro ⟨a, b⟩ ⟨c, d⟩ h
  unfold encPair at h
  injection h with h
  injection h with h
  injection h with h1 h
  injection h with h2 h
  have e1 : a = c := injR _ _ h1
  have e2 : b = d := injR _ _ h2
  rw [e1, e2]
theorem zeroRune (w : World) : (zeroValue 21).run Tryz.prog w = .ok (.int .i32 0) w := by kernel_rfl

/-- The pairs behind a line of decomp. -/
def pairQ (ps : List ((Int × Int) × Int)) (r : Int) : List Int → List ((Int × Int) × Int)
  | [a, b] => match getKV ps (a, b) with
    | some o => if r < o then putKV ps (a, b) r else ps
    | none => putKV ps (a, b) r
  | _ => ps
def decQ (q : PP) (r : Int) (t : List Int) : PP := { q with decomps := putKV q.decomps r t, pairs := pairQ q.pairs r t }
def dcpF (q : PP) (ln : List (Int × Int)) (line : Int) (ws : List ByteArray) : Except Int (PP × List (Int × Int)) :=
  match someF ws with
  | .error n => .error n
  | .ok [] => .error 0
  | .ok (r :: t) => if (getKV q.decomps r).isSome then .error 13 else if isSyl r || isJamo r then .error 1 else .ok (decQ q r t, putKV ln r line)

set_option maxHeartbeats 400000 in
set_option maxRecDepth 100000 in
theorem dcp_err (base : Nat) (k : Blks) (q : PP) (ln : List (Int × Int)) (line : Int) (b cap : Nat) (ws : List ByteArray) (w : World) (hr : Rd w base k q ln line) (hbase : base ≤ w.heap.size) (hs : StrsAt w b 0 cap ws) (n : Int) (h3 : someF ws = .error n) :
    Calls Tryz.prog 28 #[.pointer (some ⟨k.rb, 0, none⟩), .slice (some ⟨b, 0, none⟩) ws.length cap] w (RdPost w base k ln line q (.error n)) := by
  have hT := some_any b cap ws w hs
  rw [h3] at hT
  have HT := Lib.hid hT
  have HR := Lib.hid hr
  clear hT hs h3 hr
  go_enter Tryz.func28, Tryz.ntmps28
  go_wp2_with (go_at_call 50; refine HT.out.mono ?_; rintro e w2 ⟨hb2, rfl⟩; unfold errV)
  go_ret
  exact ⟨hb2.mono hbase, keeps_below hb2, rfl, HR.out.below hb2⟩

set_option maxHeartbeats 1000000 in
set_option maxRecDepth 100000 in
theorem dcp_twice (base : Nat) (k : Blks) (q : PP) (ln : List (Int × Int)) (line : Int) (b cap : Nat) (ws : List ByteArray) (w : World) (hr : Rd w base k q ln line) (hbase : base ≤ w.heap.size) (hs : StrsAt w b 0 cap ws) (r : Int) (t : List Int) (h3 : someF ws = .ok (r :: t)) (h4 : (getKV q.decomps r).isSome = true) :
    Calls Tryz.prog 28 #[.pointer (some ⟨k.rb, 0, none⟩), .slice (some ⟨b, 0, none⟩) ws.length cap] w (RdPost w base k ln line q (.error 13)) := by
  have hT := some_any b cap ws w hs
  obtain ⟨l1, l2, l3⟩ := someF_ok h3
  have hI32 := isChar_i32 (l3 r (by simp))
  rw [h3] at hT
  have HT := Lib.hid hT
  have HR := Lib.hid hr
  simp only [List.length_cons] at l1 l2
  clear hT hs h3 hr l3
  go_enter Tryz.func28, Tryz.ntmps28
  go_wp2_with (go_at_call 50; refine HT.out.mono ?_; rintro e w2 ⟨hb2, v, rfl, ho⟩)
  obtain ⟨g, cap2, rfl, q1, q2, q3, q4, q5, q6⟩ := ho.open_
  have R2 := HR.out.below hb2
  obtain ⟨vc, vk, r1, r2, r3, r4, r5⟩ := R2.ex
  obtain ⟨kv, m1, m2⟩ := R2.decs
  obtain ⟨x, hx⟩ := Option.isSome_iff_exists.1 h4
  obtain ⟨v', hv', _⟩ := m2.get_some hx
  have d1 := r1.cell 0
  have d2 := r2.cell 3
  have d3 := q5 0 r rfl
  simp only [List.getElem?_toArray, List.getElem?_cons_zero, List.getElem?_cons_succ] at d1 d2
  have hlk := fun n => (m1.of_block (w' := w2.drewN n) rfl).look true kr Tryz.underlying50 (zeroRunes (w2.drewN n)) injR r (keyR hI32)
  rw [hv'] at hlk
  simp only [lookVal, if_true] at hlk
  clear R2 r1 r2 r3 r4 r5 m1 m2 q5 q6 hx hv' ho
  go_quiet (fail)
  go_wp2
  go_ret
  have hb3 : Below w.heap.size w (w2.drewN nq) := below_drewN hb2 nq
  exact ⟨hb3.mono hbase, keeps_below hb3, rfl, HR.out.below hb3⟩

set_option maxHeartbeats 1000000 in
set_option maxRecDepth 100000 in
theorem dcp_arg (base : Nat) (k : Blks) (q : PP) (ln : List (Int × Int)) (line : Int) (b cap : Nat) (ws : List ByteArray) (w : World) (hr : Rd w base k q ln line) (hbase : base ≤ w.heap.size) (hs : StrsAt w b 0 cap ws) (r : Int) (t : List Int) (h3 : someF ws = .ok (r :: t)) (h4 : getKV q.decomps r = none) (h5 : (isSyl r || isJamo r) = true) :
    Calls Tryz.prog 28 #[.pointer (some ⟨k.rb, 0, none⟩), .slice (some ⟨b, 0, none⟩) ws.length cap] w (RdPost w base k ln line q (.error 1)) := by
  have hT := some_any b cap ws w hs
  obtain ⟨l1, l2, l3⟩ := someF_ok h3
  have hI32 := isChar_i32 (l3 r (by simp))
  rw [h3] at hT
  have HT := Lib.hid hT
  have HR := Lib.hid hr
  simp only [List.length_cons] at l1 l2
  clear hT hs h3 hr l3
  go_enter Tryz.func28, Tryz.ntmps28
  go_wp2_with (go_at_call 50; refine HT.out.mono ?_; rintro e w2 ⟨hb2, v, rfl, ho⟩)
  obtain ⟨g, cap2, rfl, q1, q2, q3, q4, q5, q6⟩ := ho.open_
  have R2 := HR.out.below hb2
  obtain ⟨vc, vk, r1, r2, r3, r4, r5⟩ := R2.ex
  obtain ⟨kv, m1, m2⟩ := R2.decs
  have hx := m2.get_none h4
  have d1 := r1.cell 0
  have d2 := r2.cell 3
  have d3 := q5 0 r rfl
  simp only [List.getElem?_toArray, List.getElem?_cons_zero, List.getElem?_cons_succ] at d1 d2
  have hlk := fun n => (m1.of_block (w' := w2.drewN n) rfl).look true kr Tryz.underlying50 (zeroRunes (w2.drewN n)) injR r (keyR hI32)
  rw [hx] at hlk
  simp only [lookVal, if_true] at hlk
  clear R2 r1 r2 r3 r4 r5 m1 m2 q5 q6 hx ho
  go_quiet (fail)
  have d3' : (w2.drewN nq).cell? ⟨g, 0, none⟩ = some (.int .i32 r) := d3
  have hb3 : Below w.heap.size w (w2.drewN nq) := below_drewN hb2 nq
  generalize w2.drewN nq = w3 at d3' hb3 ⊢
  clear hlk d1 d2 d3 hb2
  cases hsy : isSyl r with
  | true =>
    go_wp2_with (first
      | (go_at_call 51; refine (syllable_any _ _).mono ?_; rintro e w' ⟨rfl, rfl⟩)
      | (go_at_call 52; refine (jamo_any _ _).mono ?_; rintro e w' ⟨rfl, rfl⟩))
    go_ret
    exact ⟨hb3.mono hbase, keeps_below hb3, rfl, HR.out.below hb3⟩
  | false =>
    have hj : isJamo r = true := by rw [hsy] at h5; simpa using h5
    go_wp2_with (first
      | (go_at_call 51; refine (syllable_any _ _).mono ?_; rintro e w' ⟨rfl, rfl⟩)
      | (go_at_call 52; refine (jamo_any _ _).mono ?_; rintro e w' ⟨rfl, rfl⟩))
    go_ret
    exact ⟨hb3.mono hbase, keeps_below hb3, rfl, HR.out.below hb3⟩

end Go.Proofs.YtgidpknckbgmbaaGreatDoor
