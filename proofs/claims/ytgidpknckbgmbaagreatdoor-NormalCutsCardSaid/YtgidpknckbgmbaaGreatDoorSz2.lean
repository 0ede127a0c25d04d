/- (*props.reader).size: the Go code reckons what the plain function reckons. -/
import Derived.Test.YtgidpknckbgmbaaGreatDoorSz
set_option linter.unusedSimpArgs false
set_option linter.unusedVariables false
namespace Go.Proofs.YtgidpknckbgmbaaGreatDoor
open Go.RowKit

attribute [local irreducible] sizeF sizeL

theorem OwnRunes.ne_ {base : Nat} {w : World} {v : Value} {l : List Int} (h : OwnRunes base w v l) (hl : l ≠ []) : ∃ g cap, v = .slice (some ⟨g, 0, none⟩) l.length cap ∧ l.length ≤ cap ∧ cap ≤ maxLen ∧ g < w.heap.size ∧ base ≤ g ∧
    (∀ j x, l[j]? = some x → w.cell? ⟨g, j, none⟩ = some (.int .i32 x)) := by
  cases l with
  | nil => exact absurd rfl hl
  | cons r t =>
    obtain ⟨g, cap, h1, h2, h3, h4, h5, h6, _⟩ := h.open_
    exact ⟨g, cap, h1, h2, h3, h4, h5, h6⟩
theorem OwnRunes.slice {base : Nat} {w : World} {v : Value} {l : List Int} (h : OwnRunes base w v l) : ∃ a cap, v = .slice a l.length cap ∧ l.length ≤ cap ∧ cap ≤ maxLen := by
  obtain ⟨h1, ⟨rfl, h2⟩ | ⟨g, cap, cur, rfl, hb, hg, hc, hm, r⟩⟩ := h
  · exact ⟨none, 0, by rw [h2], by omega, by unfold maxLen; omega⟩
  · exact ⟨_, cap, rfl, hc, hm⟩

def SzPost (w : World) (bk : Nat) (o : KN × Int) (e : Ending) (w' : World) : Prop := e = .returned (.int .i64 o.2) ∧ w.grownBy w' (some bk) ∧ LineMap w' bk o.1

theorem grown_of_below {w w' : World} (h : Below w.heap.size w w') (r : Option Nat) : w.grownBy w' r := ⟨h.os, h.tape, h.output, h.size, fun i hi _ => h.block i hi⟩
theorem below_of_grown {w w' : World} {B bk : Nat} (h : w.grownBy w' (some bk)) (hB : B ≤ bk) (hw : B ≤ w.heap.size) : Below B w w' := ⟨h.os, h.tape, h.output, h.size, fun i hi => h.block i (by omega) (fun e => by cases e; omega)⟩
theorem LineMap.below {w w' : World} {b : Nat} {m : List (Int × Int)} (h : LineMap w b m) (hb : Below w.heap.size w w') : LineMap w' b m := MapIs.below h hb h.lt
theorem zeroInt (w : World) : (zeroValue 3).run Tryz.prog w = .ok (.int .i64 0) w := by kernel_rfl
theorem getKV_map' (l : List (Int × Int)) (a : Int) : getKV (l.map fun p => (p.1, Value.int .i64 p.2)) a = (getKV l a).map (Value.int .i64) := getKV_map (Value.int .i64) l a

/-- All points of decompositions are numbers of type int32. -/
def Dec32 (q : PP) : Prop := ∀ r, ∀ x ∈ q.dec r, I32 x
def Dec8 (q : PP) : Prop := ∀ r, (q.dec r).length ≤ 8

set_option maxHeartbeats 1000000 in
set_option maxRecDepth 100000 in
theorem size_known (q : PP) (h8 : Dec8 q) (w0 : World) (rb bp bk : Nat) (h0 : PropsAt w0 bp q) (c0 : w0.cell? ⟨rb, 0, none⟩ = some (.pointer (some ⟨bp, 0, none⟩))) (n : Nat) (kn : KN) (r : Int) (w : World) (hw : Below w0.heap.size w0 w) (hk : LineMap w bk kn)
    (hR : InR kn) (hr : I32 r) (v : Int) (hg : getKV kn r = some v) :
    Calls Tryz.prog 57 #[.pointer (some ⟨rb, 0, none⟩), .int .i32 r, .map (some bk)] w (SzPost w bk (sizeF q (n + 1) kn r)) := by
  have e : sizeF q (n + 1) kn r = (kn, max v (1 - ((q.dec r).length : Int))) := by rw [sizeF, hg]
  rw [e]
  clear e
  have hv := hR.get hg
  have cw := (hw.cell (World.block_lt_of_cell? _ _ c0)).trans c0
  have hD := Decomp_any bp r q w hr (h0.below hw)
  have l8 := h8 r
  have HD := Lib.hid hD
  have HK := Lib.hid hk
  have HG := Lib.hid hg
  clear hD hk hg h8
  go_enter Tryz.func57, Tryz.ntmps57
  go_wp2_with (first
    | (go_at_call 39; refine HD.out.mono ?_; rintro e w2 ⟨vs, rfl, ho, hb2⟩; obtain ⟨a, cap, rfl, _, _⟩ := ho.slice; have hk2 := Lib.hid (HK.out.below hb2))
    | (at_lookup; refine wpList_lookup_is _ rfl _ _ 55 true rfl 21 3 kr Tryz.underlying55 _ (zeroInt _) (Value.int .i32) injR bk _ rfl hk2.out r _ rfl (keyR hr) ?_; rw [getKV_map', HG.out]; simp only [Option.map_some, lookVal, if_true]))
  go_ret
  exact ⟨rfl, grown_of_below hb2 _, hk2.out⟩

set_option maxHeartbeats 1000000 in
set_option maxRecDepth 100000 in
theorem size_empty (q : PP) (w0 : World) (rb bp bk : Nat) (h0 : PropsAt w0 bp q) (c0 : w0.cell? ⟨rb, 0, none⟩ = some (.pointer (some ⟨bp, 0, none⟩))) (n : Nat) (kn : KN) (r : Int) (w : World) (hw : Below w0.heap.size w0 w) (hk : LineMap w bk kn)
    (hr : I32 r) (hg : getKV kn r = none) (hd : q.dec r = []) :
    Calls Tryz.prog 57 #[.pointer (some ⟨rb, 0, none⟩), .int .i32 r, .map (some bk)] w (SzPost w bk (sizeF q (n + 1) kn r)) := by
  have e : sizeF q (n + 1) kn r = (kn, 1) := by rw [sizeF, hg]; simp only [hd, if_true]
  rw [e]
  clear e
  have cw := (hw.cell (World.block_lt_of_cell? _ _ c0)).trans c0
  have hD := Decomp_any bp r q w hr (h0.below hw)
  rw [hd] at hD
  have HD := Lib.hid hD
  have HK := Lib.hid hk
  have HG := Lib.hid hg
  clear hD hk hg hd
  go_enter Tryz.func57, Tryz.ntmps57
  go_wp2_with (first
    | (go_at_call 39; refine HD.out.mono ?_; rintro e w2 ⟨vs, rfl, ho, hb2⟩; obtain ⟨a, cap, rfl, _, _⟩ := ho.slice; simp only [List.length_nil]; have hk2 := Lib.hid (HK.out.below hb2))
    | (at_lookup; refine wpList_lookup_is _ rfl _ _ 55 true rfl 21 3 kr Tryz.underlying55 _ (zeroInt _) (Value.int .i32) injR bk _ rfl hk2.out r _ rfl (keyR hr) ?_; rw [getKV_map', HG.out]; simp only [Option.map_none, lookVal, if_true]))
  go_ret
  exact ⟨rfl, grown_of_below hb2 _, hk2.out⟩

theorem LineMap.put {w : World} {b : Nat} {m : KN} {r v : Int} (h : MapIs Tryz.prog 21 (Value.int .i32) w b (putKV (m.map fun p => (p.1, Value.int .i64 p.2)) r (.int .i64 v))) : LineMap w b (putKV m r v) := by
  unfold LineMap
  rw [put_map]
  exact h
theorem grown_cells {w w' : World} {g b j : Nat} {v : Value} (hg : w.grownBy w' (some b)) (hm : IsMapBlk w b) (hc : w.cell? ⟨g, j, none⟩ = some v) : w'.cell? ⟨g, j, none⟩ = some v := turned_cell hg hm hc
theorem grown_lines {w w' : World} {b : Nat} (h : w.mapTurned w' b) : w.grownBy w' (some b) := h.grown

set_option maxHeartbeats 2000000 in
set_option maxRecDepth 100000 in
theorem size_walk (q : PP) (h32 : Dec32 q) (h8 : Dec8 q) (w0 : World) (rb bp bk : Nat) (h0 : PropsAt w0 bp q) (c0 : w0.cell? ⟨rb, 0, none⟩ = some (.pointer (some ⟨bp, 0, none⟩))) (hbk : w0.heap.size ≤ bk) (n : Nat)
    (IH : ∀ (kn : KN) (r : Int) (w : World), Below w0.heap.size w0 w → LineMap w bk kn → InR kn → I32 r → need q kn r ≤ n →
      Calls Tryz.prog 57 #[.pointer (some ⟨rb, 0, none⟩), .int .i32 r, .map (some bk)] w (SzPost w bk (sizeF q n kn r)))
    (kn : KN) (r : Int) (w : World) (hw : Below w0.heap.size w0 w) (hk : LineMap w bk kn) (hR : InR kn) (hr : I32 r) (hn : need q kn r ≤ n + 1) (hg : getKV kn r = none) (hd : q.dec r ≠ []) :
    Calls Tryz.prog 57 #[.pointer (some ⟨rb, 0, none⟩), .int .i32 r, .map (some bk)] w (SzPost w bk (sizeF q (n + 1) kn r)) := by
  have e : sizeF q (n + 1) kn r = sizeE r (sizeL (sizeF q n) (q.dec r) (putKV kn r 0) 0) := by rw [sizeF, hg]; simp only [if_neg hd]
  rw [e]
  clear e
  have cw := (hw.cell (World.block_lt_of_cell? _ _ c0)).trans c0
  have hD := Decomp_any bp r q w hr (h0.below hw)
  have l8 := h8 r
  have hpos : 0 < (q.dec r).length := List.length_pos_iff.2 hd
  have HD := Lib.hid hD
  have HK := Lib.hid hk
  have HG := Lib.hid hg
  have H32 := Lib.hid (h32 r)
  have HND := Lib.hid (fun kn' hk x hx => need_child q hn hg hd (kn' := kn') hk (x := x) hx)
  have HIH := Lib.hid IH
  have HGood := Lib.hid (sizeF_good q n)
  have HW := Lib.hid hw
  have HR := Lib.hid hR
  generalize hdd : q.dec r = ds at *
  have HDD := Lib.hid hdd
  clear hD hk hg h8 h32 IH hn hdd hw hR
  go_enter Tryz.func57, Tryz.ntmps57
  go_wp2_with (first
    | (go_at_call 39; refine HD.out.mono ?_; rintro e w2 ⟨vs, rfl, ho, hb2⟩; obtain ⟨g, cap, rfl, hcap, hcm, hgs, hgb, hcells⟩ := ho.ne_ hd; have hcH := Lib.hid hcells; clear hcells ho; have hk2 := Lib.hid (HK.out.below hb2))
    | (at_lookup; refine wpList_lookup_is _ rfl _ _ 55 true rfl 21 3 kr Tryz.underlying55 _ (zeroInt _) (Value.int .i32) injR bk _ rfl hk2.out r _ rfl (keyR hr) ?_; rw [getKV_map', HG.out]; simp only [Option.map_none, lookVal, if_true])
    | (at_mapUpdate; refine wpList_mapUpdate_is _ rfl _ _ _ 55 rfl 21 3 kr Tryz.underlying55 (Value.int .i32) injR bk _ rfl hk2.out r (.int .i64 0) _ rfl rfl (keyR hr) ?_; intro w3 hm3 ht3))
  have hl3 := LineMap.put hm3
  have hg3 := (grown_of_below hb2 (some bk)).trans ht3.grown
  have hc3 := Lib.hid (fun j x hj => turned_cell ht3.grown (MapIs.blk hk2.out) (hcH.out j x hj))
  have hR3 := HR.out.put (a := r) (v := 0) (by omega)
  have H3 := Lib.hid (And.intro hl3 (And.intro hg3 (And.intro hc3 hR3)))
  have g3 : g < w3.heap.size := Nat.lt_of_lt_of_le hgs ht3.grown.size
  clear hl3 hg3 hc3 hR3 hm3 ht3 hk2 hcH hb2 hgs
  go_loopw [10, 41] (fun s i wr => ∃ (k : Nat) (kn' : KN) (sum : Int), k ≤ ds.length ∧ i = .int .i64 k ∧ s = .int .i64 sum ∧ (0 ≤ sum ∧ sum ≤ 9) ∧ Hid (sizeL (sizeF q n) ds (putKV kn r 0) 0 = sizeL (sizeF q n) (ds.drop k) kn' sum) ∧
      Hid (LineMap wr bk kn' ∧ InR kn' ∧ freeN q.decomps kn' ≤ freeN q.decomps (putKV kn r 0) ∧ w.grownBy wr (some bk) ∧ (∀ j x, ds[j]? = some x → wr.cell? ⟨g, j, none⟩ = some (.int .i32 x))))
    (fun _ i _ => ds.length - (intOf i).toNat)
  case atStart => exact ⟨0, putKV kn r 0, 0, by omega, rfl, rfl, by omega, by show _ = _; simp, H3.out.1, H3.out.2.2.2, Nat.le_refl _, H3.out.2.1, H3.out.2.2.1⟩
  case round =>
    obtain ⟨k, kn', sum, hk, rfl, rfl, hsum, hF, hI⟩ := hrel
    by_cases hlt : k < ds.length
    · obtain ⟨x, hx⟩ : ∃ x, ds[k]? = some x := ⟨_, List.getElem?_eq_getElem hlt⟩
      have hc := hI.out.2.2.2.2 k x hx
      have hdrop : ds.drop k = x :: ds.drop (k + 1) := by
        rw [List.drop_eq_getElem_cons hlt]; rw [List.getElem?_eq_getElem hlt] at hx; rw [Option.some.inj hx]
      have hxm := List.mem_of_getElem? hx
      have hCall := HIH.out kn' x wr (HW.out.trans (below_of_grown hI.out.2.2.2.1 hbk HW.out.size)) hI.out.1 hI.out.2.1 (H32.out x hxm) (HND.out kn' hI.out.2.2.1 x hxm)
      have hG := HGood.out kn' x hI.out.2.1
      have hL : sizeL (sizeF q n) (x :: ds.drop (k + 1)) kn' sum = if (sizeF q n kn' x).2 = 0 then ((sizeF q n kn' x).1, none) else sizeL (sizeF q n) (ds.drop (k + 1)) (sizeF q n kn' x).1 (min (sum + (sizeF q n kn' x).2) 9) := by rw [sizeL]
      have HF := Lib.hid ((hF.out.trans (by rw [hdrop])).trans hL)
      have HC := Lib.hid hCall
      have hI2 := Lib.hid hI.out
      have hIb := IsMapBlk.ne_cell (MapIs.blk hI.out.1) hc
      generalize hoo : sizeF q n kn' x = oo at HF HC hG
      obtain ⟨kn2, m⟩ := oo
      obtain ⟨G1, G2, G3⟩ := hG
      have HG1 := Lib.hid G1
      have HG3 := Lib.hid G3
      simp only at HF G2
      clear hCall hF hL hdrop hI hoo G1 G3
      by_cases hm : m = 0
      · rw [if_pos hm] at HF
        subst hm
        go_wp2_with (go_at_call 57; refine HC.out.mono ?_; rintro e w4 ⟨rfl, hg4, hl4⟩)
        go_ret
        rw [HF.out]
        exact ⟨rfl, hI2.out.2.2.2.1.trans hg4, hl4⟩
      · rw [if_neg hm] at HF
        go_wp2_with (go_at_call 57; refine HC.out.mono ?_; rintro e w4 ⟨rfl, hg4, hl4⟩)
        go_roundw
        case rel => exact ⟨k + 1, kn2, min (sum + m) 9, by omega, by go_num, rfl, by omega, HF, hl4, HG1.out, Nat.le_trans HG3.out hI2.out.2.2.1, hI2.out.2.2.2.1.trans hg4, fun j y hj => turned_cell hg4 (MapIs.blk hI2.out.1) (hI2.out.2.2.2.2 j y hj)⟩
        case measure => simp [intOf]; omega
    · obtain rfl : k = ds.length := by omega
      have HF := Lib.hid hF.out
      have hI2 := Lib.hid hI.out
      clear hF hI
      go_wp2_with (at_mapUpdate; refine wpList_mapUpdate_is _ rfl _ _ _ 55 rfl 21 3 kr Tryz.underlying55 (Value.int .i32) injR bk _ rfl hI2.out.1 r (.int .i64 sum) _ rfl rfl (keyR hr) ?_; intro w4 hm4 ht4)
      go_ret
      rw [HF.out, List.drop_length]
      have e : sizeL (sizeF q n) [] kn' sum = (kn', some sum) := by rw [sizeL]
      rw [e]
      exact ⟨rfl, hI2.out.2.2.2.1.trans ht4.grown, LineMap.put hm4⟩

theorem size_any (q : PP) (h32 : Dec32 q) (h8 : Dec8 q) (w0 : World) (rb bp bk : Nat) (h0 : PropsAt w0 bp q) (c0 : w0.cell? ⟨rb, 0, none⟩ = some (.pointer (some ⟨bp, 0, none⟩))) (hbk : w0.heap.size ≤ bk) :
    ∀ (n : Nat) (kn : KN) (r : Int) (w : World), Below w0.heap.size w0 w → LineMap w bk kn → InR kn → I32 r → need q kn r ≤ n →
      Calls Tryz.prog 57 #[.pointer (some ⟨rb, 0, none⟩), .int .i32 r, .map (some bk)] w (SzPost w bk (sizeF q n kn r))
  | 0, kn, r, w, _, _, _, _, hn => by unfold need at hn; omega
  | n + 1, kn, r, w, hw, hk, hR, hr, hn => by
    cases hg : getKV kn r with
    | some v => exact size_known q h8 w0 rb bp bk h0 c0 n kn r w hw hk hR hr v hg
    | none =>
      by_cases hd : q.dec r = []
      · exact size_empty q w0 rb bp bk h0 c0 n kn r w hw hk hr hg hd
      · exact size_walk q h32 h8 w0 rb bp bk h0 c0 hbk n (size_any q h32 h8 w0 rb bp bk h0 c0 hbk n) kn r w hw hk hR hr hn hg hd

end Go.Proofs.YtgidpknckbgmbaaGreatDoor
