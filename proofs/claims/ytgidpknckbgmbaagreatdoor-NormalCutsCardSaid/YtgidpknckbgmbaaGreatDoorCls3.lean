/- (*props.reader).class: a line of class that is taken. (*props.reader).class at every line. -/
import Derived.Test.YtgidpknckbgmbaaGreatDoorCls
import Derived.Test.YtgidpknckbgmbaaGreatDoorRd2
import Derived.Deep.RegionLaw
import Derived.Deep.DeepCutAuto
import Derived.Deep.CutBlock
set_option linter.unusedSimpArgs false
set_option linter.unusedVariables false
namespace Go.Proofs.YtgidpknckbgmbaaGreatDoor
open Go.RowKit

attribute [local go_sem ↓] Go.wp_at_zero Go.wp_at_succ

theorem cell_ne_new {w : World} {a : Addr} {v : Value} (h : w.cell? a = some v) (g : Nat) (hg : w.heap.size ≤ g) : a.block ≠ g := fun e => by have := World.block_lt_of_cell? w _ h; omega

set_option maxHeartbeats 8000000 in
set_option maxRecDepth 100000 in
theorem class_ok (base : Nat) (k : Blks) (q : PP) (ln : List (Int × Int)) (line : Int) (b cap : Nat) (ws : List ByteArray) (w : World) (hr : Rd w base k q ln line) (hbase : base ≤ w.heap.size) (hs : StrsAt w b 0 cap ws) (hg : Gl w) (p : Int × Int) (h3 : threeF ws = .ok p)
    (hcl : (q.classes.length : Int) < line) (x : ByteArray) (hx : ws[2]? = some x) (hd : isDec x.data.toList = true) (h10 : (decide (1 < x.size) && (x.data.toList.head? == some 48)) = false) (v : Int) (hv : decF x.data.toList = some v) (hv2 : v ≤ 254) :
    Calls Tryz.prog 25 #[.pointer (some ⟨k.rb, 0, none⟩), .slice (some ⟨b, 0, none⟩) ws.length cap] w (RdPost w base k ln line q (.ok ({ q with classes := q.classes ++ [(p.1, p.2, v)] }, ln))) := by
  have hl := threeF_ok h3
  have hT := three_any b cap ws w hs hg
  rw [h3] at hT
  unfold spanV at hT
  have HT := Lib.hid hT
  have HR := Lib.hid hr
  have hxs := hs.short x (List.mem_of_getElem? hx)
  have hTr := fun w => trim_dec x w (by omega)
  have htr : (Lib.trimS x.data.toList decDigits).isEmpty = true := by rw [trim_dec_empty, hd]
  generalize Lib.trimS x.data.toList decDigits = L at hTr htr
  have hA := fun w hg => atoi_any x w hxs hg
  rw [hv] at hA
  have HTr := Lib.hid hTr
  have HS := Lib.hid hs
  have HX := Lib.hid hx
  have HG := Lib.hid hg
  have HCL := Lib.hid hcl
  have HB := Lib.hid hbase
  rw [hl] at HT ⊢
  clear hTr hT hg h3 hr hd hx hs hcl hbase hv
  have key : (x.size ≤ 1 ∨ (1 < x.size ∧ ∃ hp : 0 < x.size, ((x[0].toNat : Int) == 48) = false)) := by
    rcases Nat.lt_or_ge 1 x.size with h | h
    · right
      have hp : 0 < x.size := by omega
      refine ⟨h, hp, ?_⟩
      rw [head_eq x hp]
      simpa [h] using h10
    · left; exact h
  clear h10
  have HA := Lib.hid hA
  clear hA
  obtain ⟨i0, hi0, hz0, hz1, hz2⟩ := info_parts infoRow
  go_enter Tryz.func25, Tryz.ntmps25
  go_upto_region 4 with (go_at_call 46; refine HT.out.mono ?_; rintro e w2 ⟨rfl, hb2⟩; have hb3 := belowAlloc hb2 (.cells #[.int .i32 p.1, .int .i32 p.2] 87); have c2 := (HS.out.below hb3).cell 2 x HX.out)
  go_cut [34] (fun s34 wx => s34 = .bool false ∧ Below (w2.alloc (.cells #[.int .i32 p.1, .int .i32 p.2] 87)).heap.size (w2.alloc (.cells #[.int .i32 p.1, .int .i32 p.2] 87)) wx)
  case first =>
    rcases key with h1 | ⟨h1, hp, hz⟩
    all_goals
      go_wp2_with (go_at_call 47; refine (HTr.out _).mono ?_; rintro e w4 ⟨rfl, hb4⟩; have c4 := (HS.out.below (bt hb3 hb4)).cell 2 x HX.out)
      go_meet
      exact ⟨rfl, hb4⟩
  case rest =>
  obtain ⟨rfl, hb4⟩ := hcut
  have c4 := (HS.out.below (bt hb3 hb4)).cell 2 x HX.out
  go_wp2_with (go_at_call 48; refine (HA.out _ (HG.out.below (bt hb3 hb4))).mono ?_; rintro e w5 ⟨hb5, rfl⟩)
  have hb := bt (bt hb3 hb4) hb5
  have R5 := HR.out.below hb
  obtain ⟨vc, vk, r1, r2, r3, r4, r5⟩ := R5.ex
  have s5 := ((IsBlk.new w2 87 #[.int .i32 p.1, .int .i32 p.2]).below hb4).below hb5
  have d1 := r1.cell 0
  have d2 := r2.cell 0
  have d3 := s5.cell 0
  have d4 := s5.cell 1
  have d5 := r2.frozen 0
  have d6 : ∀ o, (w5.alloc o).frozen? ⟨k.bp, 0, none⟩ = false := fun o => (r2.alloc o).frozen 0
  have n1 := own_ne_blk r3 r1 (by decide)
  have n2 := own_ne_blk r3 r2 (by decide)
  have n3 := own_ne_blk r3 s5 (by decide)
  have l1 := r1.lt
  have l2 := r2.lt
  have l3 := s5.lt
  have hlen : q.classes.length < 1048577 := by have := R5.nc; have := R5.nl; have := HCL.out; omega
  have hbase5 : base ≤ w5.heap.size := Nat.le_trans HB.out hb.size
  have R5H := Lib.hid R5
  have hbH := Lib.hid hb
  have r1H := Lib.hid r1
  have r2H := Lib.hid r2
  have r3H := Lib.hid r3
  have r4H := Lib.hid r4
  have r5H := Lib.hid r5
  clear R5 c2 c4 hb r1 r2 r4 r5 s5 hb2 hb3 hb4 hb5
  simp only [List.getElem?_toArray, List.getElem?_cons_zero, List.getElem?_cons_succ] at d1 d2 d3 d4
  have e1 : ∀ o, (w5.alloc o).cell? ⟨k.rb, 0, none⟩ = some (.pointer (some ⟨k.bp, 0, none⟩)) := fun o => by rw [(r1H.out.alloc o).cell 0]; rfl
  have e2 : ∀ o, (w5.alloc o).cell? ⟨k.bp, 0, none⟩ = some vc := fun o => by rw [(r2H.out.alloc o).cell 0]; rfl
  have fin : ∀ w6 gg cap3, w6.ownsRow base 93 3 (.slice (some ⟨gg, 0, none⟩) (q.classes.length + 1) cap3) (q.classes.length + 1) (q.classes.flatMap rowCells ++ [.int .i32 p.1, .int .i32 p.2, .int .i64 v]) →
      (w5.alloc (.cells #[.int .i32 p.1, .int .i32 p.2, .int .i64 v] 93)).drew.grownBy w6 vc.ownBlock → (vc.ownBlock = some gg ∨ gg = w5.heap.size + 1) →
      RdPost w base k ln line q (.ok ({ q with classes := q.classes ++ [(p.1, p.2, v)] }, ln)) (.returned .nilIface) (w6.setCell ⟨k.bp, 0, none⟩ (.slice (some ⟨gg, 0, none⟩) (q.classes.length + 1) cap3)) := by
    intro w6 gg cap3 h1 h2 h3
    have hA : Below w5.heap.size w5 (w5.alloc (.cells #[.int .i32 p.1, .int .i32 p.2, .int .i64 v] 93)).drew := ((Below.refl _ w5).alloc (Nat.le_refl _) _).drew
    have hbH := hbH.out
    refine ⟨(hbH.mono HB.out).trans (add_base hA h2 r3H.out R5H.out.old.2.1 hbase5), (keeps_below hbH).trans (add_keeps hA h2 r3H.out r2H.out), rfl, ?_⟩
    exact R5H.out.add_class r1H.out r2H.out r3H.out r4H.out r5H.out HCL.out hA h2 h1 (by simpa using h3)
  have FIN := Lib.hid fin
  clear fin
  go_region_law
    ((refine step_append_lies _ (by rfl) _ _ _ (by rfl) base 93 i0 _ 3 16 Tryz.underlying52 hi0 hz0 hz1 hz2 rfl (by omega) vc q.classes.length (q.classes.flatMap rowCells) (by rfl) ((r3H.out.alloc _).drew)
        ⟨w5.heap.size, 0, none⟩ 1 1 [.int .i32 p.1, .int .i32 p.2, .int .i64 v] (by rfl) (by rfl) (World.news_of_block (cs := #[.int .i32 p.1, .int .i32 p.2, .int .i64 v]) (t := 93) (fr := (0, 0)) (heap_alloc_new w5 _)) (by simp [Value.oneCell'])
        (by omega) (by unfold maxLen; omega) (by omega) (by simp; omega) (w5.heap.size + 1) (by simp) ?_; intro gg cap3 w6 hown6 hgrow hat hlt; have m1 := (hgrow.cell_far ⟨k.rb, 0, none⟩ (by simp; omega) (Ne.symm n1)).trans (e1 _); have m2 := (hgrow.cell_far ⟨k.bp, 0, none⟩ (by simp; omega) (Ne.symm n2)).trans (e2 _); have m3 := (hgrow.frozen_far ⟨k.bp, 0, none⟩ (by simp; omega) (Ne.symm n2)).trans (d6 _)))
  all_goals
    go_wp2
    go_ret
    exact FIN.out _ _ _ hown6 hgrow hat

end Go.Proofs.YtgidpknckbgmbaaGreatDoor

namespace Go.Proofs.YtgidpknckbgmbaaGreatDoor
open Go.RowKit

def clsR (q : PP) (ln : List (Int × Int)) : Except Int Row → Except Int (PP × List (Int × Int))
  | .ok x => .ok ({ q with classes := q.classes ++ [x] }, ln)
  | .error n => .error n

theorem class_any (base : Nat) (k : Blks) (q : PP) (ln : List (Int × Int)) (line : Int) (b cap : Nat) (ws : List ByteArray) (w : World) (hr : Rd w base k q ln line) (hbase : base ≤ w.heap.size) (hs : StrsAt w b 0 cap ws) (hg : Gl w) (hcl : (q.classes.length : Int) < line) :
    Calls Tryz.prog 25 #[.pointer (some ⟨k.rb, 0, none⟩), .slice (some ⟨b, 0, none⟩) ws.length cap] w (RdPost w base k ln line q (clsR q ln (clsF ws))) := by
  cases h3 : threeF ws with
  | error n =>
    have : clsF ws = .error n := by unfold clsF; rw [h3]
    rw [this]
    exact class_err3 base k q ln line b cap ws w hr hbase hs hg n h3
  | ok p =>
    have hl := threeF_ok h3
    obtain ⟨x, hx⟩ : ∃ x, ws[2]? = some x := ⟨_, List.getElem?_eq_getElem (by omega)⟩
    have hgd : ws.getD 2 ByteArray.empty = x := by rw [List.getD, hx]; rfl
    have hlen : x.data.toList.length = x.size := by rw [Lib.size_eq]
    have hc : clsF ws = if !isDec x.data.toList || (decide (1 < x.size) && (x.data.toList.head? == some 48)) then .error 11
      else match decF x.data.toList with
        | some v => if 254 < v then .error 1 else .ok (p.1, p.2, v)
        | none => .error 1 := by unfold clsF; rw [h3]; simp only [hgd, hlen]; rfl
    cases hd : isDec x.data.toList with
    | false =>
      have : clsF ws = .error 11 := by rw [hc, hd]; rfl
      rw [this]
      exact class_err11a base k q ln line b cap ws w hr hbase hs hg p h3 x hx hd
    | true =>
      cases h10 : (decide (1 < x.size) && (x.data.toList.head? == some 48)) with
      | true =>
        have : clsF ws = .error 11 := by rw [hc, hd, h10]; rfl
        rw [this]
        rw [Bool.and_eq_true] at h10
        exact class_err11b base k q ln line b cap ws w hr hbase hs hg p h3 x hx hd (of_decide_eq_true h10.1) h10.2
      | false =>
        rw [hd, h10] at hc
        simp only [Bool.not_true, Bool.or_self, Bool.false_eq_true, if_false] at hc
        cases hv : decF x.data.toList with
        | none =>
          rw [hv] at hc
          rw [hc]
          exact class_err1 base k q ln line b cap ws w hr hbase hs hg p h3 x hx hd h10 (fun v hv' => by rw [hv] at hv'; cases hv')
        | some v =>
          rw [hv] at hc
          by_cases hv2 : 254 < v
          · simp only [hv2, if_true] at hc
            rw [hc]
            exact class_err1 base k q ln line b cap ws w hr hbase hs hg p h3 x hx hd h10 (fun v' hv' => by rw [hv] at hv'; cases hv'; exact hv2)
          · simp only [hv2, if_false] at hc
            rw [hc]
            exact class_ok base k q ln line b cap ws w hr hbase hs hg p h3 hcl x hx hd h10 v hv (by omega)

end Go.Proofs.YtgidpknckbgmbaaGreatDoor
