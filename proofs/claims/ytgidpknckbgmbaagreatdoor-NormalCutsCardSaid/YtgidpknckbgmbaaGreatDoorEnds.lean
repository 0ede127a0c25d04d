/- (*props.reader).ends: does every decomposition end, and is none too long? -/
import Derived.Test.YtgidpknckbgmbaaGreatDoorSz2
import Derived.Test.YtgidpknckbgmbaaGreatDoorRng
import Derived.Sort.OwnSortedInts
set_option linter.unusedSimpArgs false
set_option linter.unusedVariables false
namespace Go.Proofs.YtgidpknckbgmbaaGreatDoor
open Go.RowKit

attribute [local irreducible] sizeF sizeL

/-- What slices.Sort does. -/
def SortC : Prop := ∀ (base : Nat) (w : World) (v : Value) (l : List Int), OwnRunes base w v l → l.length ≤ 1048577 → base ≤ w.heap.size →
  Calls Tryz.prog 56 #[v] w fun e w' => e = .returned (.tuple #[]) ∧ OwnRunes base w' v (l.mergeSort fun x y => decide (x ≤ y)) ∧ w.grownBy w' v.ownBlock

def faultV (p : Int × Int) : Value := .iface 72 (.agg #[.int .i64 p.1, .int .i64 p.2, .int .i64 0])
def deep (q : PP) : Nat := 2 * q.decomps.length + 2
def endsL (q : PP) (ln : KN) : List Int → KN → Option (Int × Int)
  | [], _ => none
  | r :: rs, kn => if (sizeF q (deep q) kn r).2 = 0 then some (14, (getKV ln r).getD 0) else if 8 < (sizeF q (deep q) kn r).2 then some (5, (getKV ln r).getD 0) else endsL q ln rs (sizeF q (deep q) kn r).1
def endsF (q : PP) (ln : KN) : Option (Int × Int) := endsL q ln ((ln.map (·.1)).mergeSort fun x y => decide (x ≤ y)) []
def endsV : Option (Int × Int) → Value
  | none => .nilIface
  | some p => faultV p

theorem sorted_perm_eq {l l' : List Int} (h : l.Perm l') : (l.mergeSort fun x y => decide (x ≤ y)) = l'.mergeSort fun x y => decide (x ≤ y) := by
  have tr : ∀ a b c : Int, decide (a ≤ b) = true → decide (b ≤ c) = true → decide (a ≤ c) = true := fun a b c h1 h2 => by simp only [decide_eq_true_eq] at *; omega
  have tot : ∀ a b : Int, (decide (a ≤ b) || decide (b ≤ a)) = true := fun a b => by simp only [Bool.or_eq_true, decide_eq_true_eq]; omega
  refine List.Perm.eq_of_pairwise (le := fun a b => decide (a ≤ b) = true) (fun a b _ _ h1 h2 => ?_) (List.pairwise_mergeSort tr tot l) (List.pairwise_mergeSort tr tot l') (((List.mergeSort_perm l _).trans h).trans (List.mergeSort_perm l' _).symm)
  simp only [decide_eq_true_eq] at h1 h2
  omega
theorem sorted_keys {ln : KN} {done : List Int} (hn : done.Nodup) (hk : ((ln.map fun p => (p.1, Value.int .i64 p.2)).map (·.1)).Nodup) (h : ∀ a, a ∈ done ↔ ∃ p ∈ ln.map fun p => (p.1, Value.int .i64 p.2), p.1 = a) :
    (done.mergeSort fun x y => decide (x ≤ y)) = (ln.map (·.1)).mergeSort fun x y => decide (x ≤ y) := by
  have e : (ln.map fun p => (p.1, Value.int .i64 p.2)).map (·.1) = ln.map (·.1) := by rw [List.map_map]; rfl
  rw [e] at hk
  refine sorted_perm_eq ((List.perm_ext_iff_of_nodup hn hk).2 fun a => ?_)
  rw [h a, ← e, List.mem_map]

theorem cells_rows {w : World} {base : Nat} {v : Value} {rs : List Row} (h : OwnRows base w v rs) : RowsAt w.heap.size w v rs := by
  obtain ⟨h1, ⟨rfl, h2⟩ | ⟨g, cap, cur, rfl, hb, hg, hc, hm, hs, ht⟩⟩ := h
  · exact .inl ⟨rfl, List.length_eq_zero_iff.1 h2⟩
  · have key : ∀ (rs : List Row) (j : Nat) (x : Row), rs[j]? = some x → (rs.flatMap rowCells)[j * 3]? = some (.int .i32 x.1) ∧ (rs.flatMap rowCells)[j * 3 + 1]? = some (.int .i32 x.2.1) ∧ (rs.flatMap rowCells)[j * 3 + 2]? = some (.int .i64 x.2.2) := by
      intro rs
      induction rs with
      | nil => intro j x hj; simp at hj
      | cons y rs ih =>
        intro j x hj
        cases j with
        | zero => simp at hj; subst hj; simp [rowCells]
        | succ j =>
          have := ih j x (by simpa using hj)
          have e : ∀ i, ((y :: rs).flatMap rowCells)[(j + 1) * 3 + i]? = (rs.flatMap rowCells)[j * 3 + i]? := fun i => by
            rw [List.flatMap_cons, show (j + 1) * 3 + i = (rowCells y).length + (j * 3 + i) by simp [rowCells]; omega, List.getElem?_append_right (by omega)]
            congr 1; omega
          exact ⟨(e 0).trans this.1, (e 1).trans this.2.1, (e 2).trans this.2.2⟩
    refine .inr ⟨g, cap, rfl, (Array.getElem?_eq_some_iff.1 hg).1, fun j x hj => ?_⟩
    have hjl : j < rs.length := (List.getElem?_eq_some_iff.1 hj).1
    obtain ⟨k1, k2, k3⟩ := key rs j x hj
    have take : ∀ i v, i < rs.length * 3 → (rs.flatMap rowCells)[i]? = some v → w.cell? ⟨g, i, none⟩ = some v := fun i v hi hv => by
      rw [← ht, List.getElem?_take, if_pos (by omega)] at hv
      unfold World.cell?
      rw [hg]
      simpa using hv
    exact ⟨take _ _ (by omega) k1, take _ _ (by omega) k2, take _ _ (by omega) k3⟩

theorem Rd.props {w : World} {base : Nat} {k : Blks} {q : PP} {ln : List (Int × Int)} {line : Int} (h : Rd w base k q ln line) : PropsAt w k.bp q := by
  obtain ⟨vc, vk, h1, h2, h3, h4, h5⟩ := h.ex
  have := h.nc; have := h.nk; have := h.nl
  exact ⟨⟨vc, vk, k.bf, k.bd, k.bt, h2, cells_rows h3, cells_rows h4, h.folds, h.decs, h.pairs⟩, by omega, by omega⟩

theorem OwnRunes.spot {base : Nat} {w : World} {a : Option Addr} {n cap : Nat} {l : List Int} (h : OwnRunes base w (.slice a n cap) l) (hl : l ≠ []) : ∃ g, a = some ⟨g, 0, none⟩ ∧ ∀ j x, l[j]? = some x → w.cell? ⟨g, j, none⟩ = some (.int .i32 x) := by
  obtain ⟨g, cap', e, _, _, _, _, h⟩ := h.ne_ hl
  injection e with e1 _ _
  exact ⟨g, e1, h⟩
theorem OwnRunes.own {base : Nat} {w : World} {v : Value} {l : List Int} (h : OwnRunes base w v l) : ∀ g, v.ownBlock = some g → base ≤ g := fun g e => (World.ownsRow.lt h g e).1
theorem look_line (ln : KN) (r : Int) : lookVal false (.int .i64 0) (getKV (ln.map fun p => (p.1, Value.int .i64 p.2)) r) = .int .i64 ((getKV ln r).getD 0) := by
  rw [getKV_map']
  cases getKV ln r <;> rfl

theorem OwnRunes.iter {base b r cnt : Nat} {w w' : World} {v : Value} {l done : List Int} {kv : List (Int × Value)} (h : OwnRunes base w v l) (hg : w.grownBy w' (some r)) (hr : RngIs Tryz.prog 21 (Value.int .i32) w b r kv done cnt) : OwnRunes base w' v l :=
  own_grown h hg fun g e1 e2 => by
    cases e2
    obtain ⟨s, sn, c, hi⟩ := hr.iter
    rcases h.2 with ⟨rfl, _⟩ | ⟨g', cap, cur, rfl, _, hh, _⟩
    · cases e1
    · cases e1
      rw [hh] at hi
      cases hi
theorem RngIs.apart_map {base b r cnt : Nat} {w : World} {v : Value} {l done : List Int} {kv : List (Int × Value)} (hr : RngIs Tryz.prog 21 (Value.int .i32) w b r kv done cnt) (h : OwnRunes base w v l) : some b ≠ v.ownBlock := fun e => by
  rcases h.2 with ⟨rfl, _⟩ | ⟨g', cap, cur, rfl, _, hh, _⟩
  · cases e
  · cases e
    obtain ⟨es, c, hm⟩ := hr.map.blk
    rw [hh] at hm
    cases hm
theorem RngIs.apart_iter {base b r cnt : Nat} {w : World} {v : Value} {l done : List Int} {kv : List (Int × Value)} (hr : RngIs Tryz.prog 21 (Value.int .i32) w b r kv done cnt) (h : OwnRunes base w v l) : some r ≠ v.ownBlock := fun e => by
  rcases h.2 with ⟨rfl, _⟩ | ⟨g', cap, cur, rfl, _, hh, _⟩
  · cases e
  · cases e
    obtain ⟨s, sn, c, hi⟩ := hr.iter
    rw [hh] at hi
    cases hi

theorem Rd.bl_cell {w : World} {base : Nat} {k : Blks} {q : PP} {ln : List (Int × Int)} {line : Int} (h : Rd w base k q ln line) : w.cell? ⟨k.rb, 1, none⟩ = some (.map (some k.bl)) := by
  obtain ⟨vc, vk, r1, _⟩ := h.ex
  exact r1.cell 1

def EndsPost (w : World) (q : PP) (ln : KN) (e : Ending) (w' : World) : Prop := e = .returned (endsV (endsF q ln)) ∧ Below w.heap.size w w'

set_option maxHeartbeats 2000000 in
set_option maxRecDepth 100000 in
theorem ends_any (hSort : SortC) (base : Nat) (k : Blks) (q : PP) (ln : KN) (line : Int) (w : World) (hr : Rd w base k q ln line) (h32 : Dec32 q) (h8 : Dec8 q) (hln : ∀ p ∈ ln, I32 p.1) (hlen : ln.length ≤ 1048577) :
    Calls Tryz.prog 34 #[.pointer (some ⟨k.rb, 0, none⟩)] w (EndsPost w q ln) := by
  obtain ⟨vc, vk, r1, r2, r3, r4, r5⟩ := hr.ex
  have d1 := r1.cell 1
  have d0 := r1.cell 0
  simp only [List.getElem?_toArray, List.getElem?_cons_zero, List.getElem?_cons_succ] at d1 d0
  have hml := hr.lines
  unfold LineMap at hml
  obtain ⟨kv, hkv⟩ : ∃ kv, kv = ln.map fun p => (p.1, Value.int .i64 p.2) := ⟨_, rfl⟩
  have hkl : kv.length = ln.length := by rw [hkv, List.length_map]
  rw [← hkv] at hml
  have ML := Lib.hid hml
  have HKV := Lib.hid hkv
  clear hml hkv
  obtain ⟨S, hSd⟩ : ∃ S, S = (ln.map (·.1)).mergeSort fun x y => decide (x ≤ y) := ⟨_, rfl⟩
  have HEF := Lib.hid (show endsF q ln = endsL q ln S [] by rw [hSd]; rfl)
  have HSD := Lib.hid hSd
  clear hSd
  have HR := Lib.hid hr
  have HS := Lib.hid hSort
  have H32 := Lib.hid h32
  have H8 := Lib.hid h8
  have HLN := Lib.hid hln
  clear r1 r2 r3 r4 r5 hr hSort h32 h8 hln
  go_enter Tryz.func34, Tryz.ntmps34
  go_wp2_with (at_range; refine wpList_range_is _ rfl _ 55 rfl 21 3 Tryz.underlying55 (Value.int .i32) k.bl _ rfl ML.out ?_; intro w1 hrg1 hg1 hs1)
  go_frame
  go_loopw [3] (fun v wr => ∃ (done : List Int) (cnt : Nat), Hid (RngIs Tryz.prog 21 (Value.int .i32) wr k.bl w.heap.size kv done cnt) ∧ OwnRunes w.heap.size wr v done ∧ done.length + cnt ≤ ln.length ∧ Below w.heap.size w wr)
    (fun _ wr => wr.rangeLeft k.bl w.heap.size)
  case atStart => exact ⟨[], kv.length, hrg1, OwnRunes.nil _ _, by simp; omega, ⟨hg1.os, hg1.tape, hg1.output, hg1.size, fun i hi => hg1.block i hi (by simp)⟩⟩
  case round =>
    obtain ⟨done, cnt, hrg, hown, hcnt, hB⟩ := hrel
    clear hrg1 hg1 hs1
    go_wp2_with (at_next; refine wpList_next_is _ rfl _ rfl 21 (Value.int .i32) injR k.bl w.heap.size _ done cnt rfl hrg.out ?_ ?_)
    case refine_2 =>
      intro a v w2 cnt2 hmem hrg2 hlt hg2 hs2 hen
      have hown2 := hown.iter hg2 hrg.out
      have HRG2 := Lib.hid hrg2
      have HRG := Lib.hid hrg.out
      have hB2 := hB.grown hg2 hB.size (fun g e => by cases e; exact Nat.le_refl _)
      have hw2 := hB2.size
      clear hmem hrg2 hrg hg2 hown hs2
      go_wp2_with (at_builtin; (refine wpList_append_rune _ rfl _ _ rfl w.heap.size _ done rfl (hown2.alloc _) w2.heap.size a rfl (cell_new _ _ _) (by omega) (by simp; omega) ?_); intro v3 w3 hown3 hgrow3)
      have HR3 := Lib.hid ((HRG2.out.kept (World.grownBy_alloc w2 (.cells #[.int .i32 a] 21) none) (by simp) (by simp)).kept hgrow3 (HRG2.out.apart_map hown2) (HRG2.out.apart_iter hown2))
      go_roundw
      case rel => exact ⟨done ++ [a], cnt2, HR3.out, hown3, by simp; omega, (hB2.alloc hw2 _).grown hgrow3 (by simp; omega) (fun g hg => (World.ownsRow.lt hown2 g hg).1)⟩
      case measure => rw [HR3.out.left, HRG.out.left]; exact hlt
    case refine_1 =>
      intro hall
      rw [HKV.out] at hall
      have hsort := sorted_keys hrg.out.nodup (by rw [← HKV.out]; exact ML.out.nodup) (fun a => (hall a).trans ⟨fun ⟨x, h⟩ => ⟨_, h, rfl⟩, by rintro ⟨⟨p1, p2⟩, h, rfl⟩; exact ⟨p2, h⟩⟩)
      have hS := HS.out w.heap.size wr u3 done hown (by omega) hB.size
      rw [hsort, ← HSD.out] at hS
      have hslen : S.length ≤ 1048577 := by rw [HSD.out]; simpa using hlen
      have hsmem : ∀ x ∈ S, I32 x := fun x hx => by
        rw [HSD.out] at hx
        obtain ⟨p, hp, rfl⟩ := List.mem_map.1 (List.mem_mergeSort.1 hx)
        exact HLN.out p hp
      have HSS := Lib.hid hS
      have HSM := Lib.hid hsmem
      have HOW := Lib.hid hown.own
      have HBB := Lib.hid hB
      clear hS hsmem hall hsort hown hB hrg hcnt
      have hmm := @run_makeMap Tryz.prog
      go_wp2_with (go_at_call 56; refine HSS.out.mono ?_; rintro e w3 ⟨rfl, ho3, hg3⟩; obtain ⟨sa, scap, hsl, hsc1, hsc2⟩ := ho3.slice; subst hsl)
      have hB3 := HBB.out.grown hg3 HBB.out.size HOW.out
      have hR3 := HR.out.below hB3
      have hP3 := hR3.props
      have hrb := (hB3.cell (World.block_lt_of_cell? _ _ d0)).trans d0
      have hspot := fun hne => ho3.spot (l := S) hne
      have hmk : LineMap (w3.alloc (.map #[] 0)) w3.heap.size [] := MapIs.made w3 _ _ _
      have hg4 : (w3.alloc (.map #[] 0)).grownBy (w3.alloc (.map #[] 0)) (some w3.heap.size) := World.grownBy.refl _ _
      have hb4 : Below w3.heap.size w3 (w3.alloc (.map #[] 0)) := (Below.refl _ w3).alloc (Nat.le_refl _) _
      have hs4 : w3.heap.size < (w3.alloc (.map #[] 0)).heap.size := by simp
      have HSZ := Lib.hid (size_any q H32.out H8.out w3 k.rb k.bp w3.heap.size hP3 hrb (Nat.le_refl _))
      have HSPOT := Lib.hid hspot
      have H4 := Lib.hid (And.intro hmk (And.intro hg4 hb4))
      have HR3 := Lib.hid hR3
      have HB3 := Lib.hid hB3
      clear hspot hmk hg4 hb4 hB3 hR3 hP3 hg3 ho3 hmm HBB HOW HSS HS ML HKV d1 d0 hkl HSD hrb
      generalize w3.alloc (.map #[] 0) = w4 at H4 hs4 ⊢
      go_loopw [27] (fun i wr => ∃ (kk : Nat) (kn : KN), kk ≤ S.length ∧ i = .int .i64 kk ∧ Hid (endsF q ln = endsL q ln (S.drop kk) kn) ∧ Hid (LineMap wr w3.heap.size kn ∧ InR kn ∧ w4.grownBy wr (some w3.heap.size) ∧ Below w3.heap.size w3 wr))
        (fun i _ => S.length - (intOf i).toNat)
      case atStart => exact ⟨0, [], by omega, rfl, HEF.out, H4.out.1, (fun p hp => by cases hp), H4.out.2.1, H4.out.2.2⟩
      case round =>
        obtain ⟨kk, kn, hk, rfl, hF, hI⟩ := hrel
        by_cases hlt : kk < S.length
        · obtain ⟨x, hx⟩ : ∃ x, S[kk]? = some x := ⟨_, List.getElem?_eq_getElem hlt⟩
          obtain ⟨g, rfl, hcs⟩ := HSPOT.out (fun e => by rw [e] at hlt; simp at hlt)
          have hc3 := hcs kk x hx
          have hc := (hI.out.2.2.2.cell (World.block_lt_of_cell? _ _ hc3)).trans hc3
          have hdrop : S.drop kk = x :: S.drop (kk + 1) := by
            rw [List.drop_eq_getElem_cons hlt]; rw [List.getElem?_eq_getElem hlt] at hx; rw [Option.some.inj hx]
          have hxm := HSM.out x (List.mem_of_getElem? hx)
          have hCall := HSZ.out (deep q) kn x wr hI.out.2.2.2 hI.out.1 hI.out.2.1 hxm (need_le q kn x)
          have hG := sizeF_good q (deep q) kn x hI.out.2.1
          have hL : endsF q ln = if (sizeF q (deep q) kn x).2 = 0 then some (14, (getKV ln x).getD 0) else if 8 < (sizeF q (deep q) kn x).2 then some (5, (getKV ln x).getD 0) else endsL q ln (S.drop (kk + 1)) (sizeF q (deep q) kn x).1 := by
            rw [hF.out, hdrop]; rfl
          have HF := Lib.hid hL
          have HC := Lib.hid hCall
          have hI2 := Lib.hid hI.out
          generalize hoo : sizeF q (deep q) kn x = oo at HF HC hG
          obtain ⟨kn2, m⟩ := oo
          obtain ⟨G1, G2, G3⟩ := hG
          have HG1 := Lib.hid G1
          simp only at HF G2
          clear hCall hF hL hdrop hI hoo G1 G3 hc3
          by_cases hm0 : m = 0
          · rw [if_pos hm0] at HF
            subst hm0
            go_wp2_with (first
              | (go_at_call 57; refine HC.out.mono ?_; rintro e w5 ⟨rfl, hg5, hl5⟩; have hB5 := hI2.out.2.2.2.trans (below_of_grown hg5 (Nat.le_refl _) hI2.out.2.2.2.size); have hR5 := HR3.out.below hB5; have hb1 := hR5.bl_cell; have hM5 := Lib.hid hR5.lines; have HB5 := Lib.hid hB5; have HL5 := Lib.hid hl5; have HG5 := Lib.hid hg5; clear hR5 hB5 hl5 hg5)
              | (at_lookup; refine wpList_lookup_is _ rfl _ _ 55 false rfl 21 3 kr Tryz.underlying55 _ (zeroInt _) (Value.int .i32) injR k.bl _ rfl hM5.out x _ rfl (keyR hxm) ?_; rw [look_line]))
            go_ret
            exact ⟨by rw [HF.out]; rfl, HB3.out.trans (HB5.out.mono HB3.out.size)⟩
          · rw [if_neg hm0] at HF
            by_cases hm8 : 8 < m
            · rw [if_pos hm8] at HF
              go_wp2_with (first
              | (go_at_call 57; refine HC.out.mono ?_; rintro e w5 ⟨rfl, hg5, hl5⟩; have hB5 := hI2.out.2.2.2.trans (below_of_grown hg5 (Nat.le_refl _) hI2.out.2.2.2.size); have hR5 := HR3.out.below hB5; have hb1 := hR5.bl_cell; have hM5 := Lib.hid hR5.lines; have HB5 := Lib.hid hB5; have HL5 := Lib.hid hl5; have HG5 := Lib.hid hg5; clear hR5 hB5 hl5 hg5)
              | (at_lookup; refine wpList_lookup_is _ rfl _ _ 55 false rfl 21 3 kr Tryz.underlying55 _ (zeroInt _) (Value.int .i32) injR k.bl _ rfl hM5.out x _ rfl (keyR hxm) ?_; rw [look_line]))
              go_ret
              exact ⟨by rw [HF.out]; rfl, HB3.out.trans (HB5.out.mono HB3.out.size)⟩
            · rw [if_neg hm8] at HF
              go_wp2_with (first
              | (go_at_call 57; refine HC.out.mono ?_; rintro e w5 ⟨rfl, hg5, hl5⟩; have hB5 := hI2.out.2.2.2.trans (below_of_grown hg5 (Nat.le_refl _) hI2.out.2.2.2.size); have hR5 := HR3.out.below hB5; have hb1 := hR5.bl_cell; have hM5 := Lib.hid hR5.lines; have HB5 := Lib.hid hB5; have HL5 := Lib.hid hl5; have HG5 := Lib.hid hg5; clear hR5 hB5 hl5 hg5)
              | (at_lookup; refine wpList_lookup_is _ rfl _ _ 55 false rfl 21 3 kr Tryz.underlying55 _ (zeroInt _) (Value.int .i32) injR k.bl _ rfl hM5.out x _ rfl (keyR hxm) ?_; rw [look_line]))
              go_roundw
              case rel => exact ⟨kk + 1, kn2, by omega, by go_num, HF, HL5.out, HG1.out, hI2.out.2.2.1.trans HG5.out, HB5.out⟩
              case measure => simp [intOf]; omega
        · obtain rfl : kk = S.length := by omega
          have HF := Lib.hid hF.out
          have HBI := Lib.hid hI.out.2.2.2
          clear hF hI
          go_wp2
          go_ret
          exact ⟨by rw [HF.out, List.drop_length]; rfl, HB3.out.trans (HBI.out.mono HB3.out.size)⟩

end Go.Proofs.YtgidpknckbgmbaaGreatDoor
