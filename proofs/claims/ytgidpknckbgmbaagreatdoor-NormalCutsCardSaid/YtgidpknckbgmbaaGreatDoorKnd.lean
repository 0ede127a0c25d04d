/- (*props.reader).kind: a line of kind. -/
import Derived.Test.YtgidpknckbgmbaaGreatDoorCls
import Derived.Deep.RegionLaw
import Derived.Deep.DeepCutAuto
import Derived.Deep.CutBlock
import Derived.Test.YtgidpknckbgmbaaGreatDoorRd2
set_option linter.unusedSimpArgs false
set_option linter.unusedVariables false
namespace Go.Proofs.YtgidpknckbgmbaaGreatDoor
open Go.RowKit

attribute [local go_sem ↓] Go.wp_at_zero Go.wp_at_succ

def kindNames : List ByteArray := [⟨#[111, 116, 104, 101, 114]⟩, ⟨#[108, 101, 116, 116, 101, 114]⟩, ⟨#[100, 105, 103, 105, 116]⟩, ⟨#[109, 97, 114, 107]⟩, ⟨#[115, 112, 97, 99, 101]⟩, ⟨#[99, 111, 110, 116, 114, 111, 108]⟩, ⟨#[106, 111, 105, 110, 101, 114]⟩, ⟨#[109, 105, 100, 100, 108, 101]⟩]
def kidF (x : ByteArray) : Int := Lib.idxOfS kindNames x
/-- A line of kind: its row, or the error's number. -/
def kndF (ws : List ByteArray) : Except Int Row :=
  match threeF ws with
  | .error n => .error n
  | .ok p => if kidF (ws.getD 2 ByteArray.empty) < 0 then .error 12 else .ok (p.1, p.2, kidF (ws.getD 2 ByteArray.empty))

abbrev kindCells : List Value := [.string ⟨#[111, 116, 104, 101, 114]⟩, .string ⟨#[108, 101, 116, 116, 101, 114]⟩, .string ⟨#[100, 105, 103, 105, 116]⟩, .string ⟨#[109, 97, 114, 107]⟩, .string ⟨#[115, 112, 97, 99, 101]⟩, .string ⟨#[99, 111, 110, 116, 114, 111, 108]⟩, .string ⟨#[106, 111, 105, 110, 101, 114]⟩, .string ⟨#[109, 105, 100, 100, 108, 101]⟩]

theorem kind_blk (w2 : World) (o : Obj) : IsBlk ((w2.alloc o).alloc (.cells kindCells.toArray 9)) (w2.heap.size + 1) 9 kindCells.toArray := by
  have := IsBlk.new (w2.alloc o) 9 kindCells.toArray
  rwa [World.size_alloc] at this

theorem index_kind (x : ByteArray) (w : World) (g : Nat) (hb : IsBlk w g 9 kindCells.toArray) :
    Calls Tryz.prog 49 #[.slice (some ⟨g, 0, none⟩) 8 8, .string x] w fun e w' => e = .returned (.int .i64 (kidF x)) ∧ Below w.heap.size w w' := by
  refine (Tryz.slices_Index_string g 0 8 8 kindNames x w (by decide) (by decide) (fun j hj => ?_)).mono (fun e w' ⟨h1, h2⟩ => ⟨h1, h2 ▸ Below.refl _ _⟩)
  rw [Nat.zero_add, hb.cell j]
  have hj8 : j < 8 := hj
  match j, hj8 with
  | 0, _ => rfl
  | 1, _ => rfl
  | 2, _ => rfl
  | 3, _ => rfl
  | 4, _ => rfl
  | 5, _ => rfl
  | 6, _ => rfl
  | 7, _ => rfl

set_option maxHeartbeats 400000 in
set_option maxRecDepth 100000 in
theorem kind_err3 (base : Nat) (k : Blks) (q : PP) (ln : List (Int × Int)) (line : Int) (b cap : Nat) (ws : List ByteArray) (w : World) (hr : Rd w base k q ln line) (hbase : base ≤ w.heap.size) (hs : StrsAt w b 0 cap ws) (hg : Gl w) (n : Int) (h3 : threeF ws = .error n) :
    Calls Tryz.prog 26 #[.pointer (some ⟨k.rb, 0, none⟩), .slice (some ⟨b, 0, none⟩) ws.length cap] w (RdPost w base k ln line q (.error n)) := by
  have hT := three_any b cap ws w hs hg
  rw [h3] at hT
  unfold spanV at hT
  have HT := Lib.hid hT
  have HR := Lib.hid hr
  clear hT hs hg h3 hr
  go_enter Tryz.func26, Tryz.ntmps26
  go_wp2_with (go_at_call 46; refine HT.out.mono ?_; rintro e w2 ⟨rfl, hb2⟩; unfold errV)
  go_ret
  have hb := hb2.alloc hb2.size (.cells #[.int .i32 0, .int .i32 0] 87)
  exact ⟨hb.mono hbase, keeps_below hb, rfl, HR.out.below hb⟩

set_option maxHeartbeats 400000 in
set_option maxRecDepth 100000 in
theorem kind_err12 (base : Nat) (k : Blks) (q : PP) (ln : List (Int × Int)) (line : Int) (b cap : Nat) (ws : List ByteArray) (w : World) (hr : Rd w base k q ln line) (hbase : base ≤ w.heap.size) (hs : StrsAt w b 0 cap ws) (hg : Gl w) (p : Int × Int) (h3 : threeF ws = .ok p)
    (x : ByteArray) (hx : ws[2]? = some x) (hn : kidF x < 0) :
    Calls Tryz.prog 26 #[.pointer (some ⟨k.rb, 0, none⟩), .slice (some ⟨b, 0, none⟩) ws.length cap] w (RdPost w base k ln line q (.error 12)) := by
  have hl := threeF_ok h3
  have hT := three_any b cap ws w hs hg
  rw [h3] at hT
  unfold spanV at hT
  have HT := Lib.hid hT
  have HR := Lib.hid hr
  have hI := fun w g hb => index_kind x w g hb
  generalize kidF x = n at hI hn
  have HI := Lib.hid hI
  have HS := Lib.hid hs
  have HX := Lib.hid hx
  rw [hl] at HT ⊢
  clear hT hg h3 hr hx hs hI
  go_enter Tryz.func26, Tryz.ntmps26
  go_wp2_with (first
    | (go_at_call 46; refine HT.out.mono ?_; rintro e w2 ⟨rfl, hb2⟩; have hb3 := belowAlloc (belowAlloc hb2 (.cells #[.int .i32 p.1, .int .i32 p.2] 87)) (.cells kindCells.toArray 9); have c2 := (HS.out.below hb3).cell 2 x HX.out)
    | (go_at_call 49; refine (HI.out _ (w2.heap.size + 1) (kind_blk _ _)).mono ?_; rintro e w4 ⟨rfl, hb4⟩))
  go_ret
  have hb := bt hb3 hb4
  exact ⟨hb.mono hbase, keeps_below hb, rfl, HR.out.below hb⟩

set_option maxHeartbeats 8000000 in
set_option maxRecDepth 100000 in
theorem kind_ok (base : Nat) (k : Blks) (q : PP) (ln : List (Int × Int)) (line : Int) (b cap : Nat) (ws : List ByteArray) (w : World) (hr : Rd w base k q ln line) (hbase : base ≤ w.heap.size) (hs : StrsAt w b 0 cap ws) (hg : Gl w) (p : Int × Int) (h3 : threeF ws = .ok p)
    (hcl : (q.kinds.length : Int) < line) (x : ByteArray) (hx : ws[2]? = some x) (hn : ¬ kidF x < 0) :
    Calls Tryz.prog 26 #[.pointer (some ⟨k.rb, 0, none⟩), .slice (some ⟨b, 0, none⟩) ws.length cap] w (RdPost w base k ln line q (.ok ({ q with kinds := q.kinds ++ [(p.1, p.2, kidF x)] }, ln))) := by
  have hl := threeF_ok h3
  have hT := three_any b cap ws w hs hg
  rw [h3] at hT
  unfold spanV at hT
  have HT := Lib.hid hT
  have HR := Lib.hid hr
  have hI := fun w g hb => index_kind x w g hb
  have hv0 : 0 ≤ kidF x := by omega
  generalize kidF x = v at hI hn hv0 ⊢
  have HI := Lib.hid hI
  have HS := Lib.hid hs
  have HX := Lib.hid hx
  have HCL := Lib.hid hcl
  have HB := Lib.hid hbase
  rw [hl] at HT ⊢
  clear hT hg h3 hr hx hs hI hcl hbase hn
  obtain ⟨i0, hi0, hz0, hz1, hz2⟩ := info_parts infoRow
  go_enter Tryz.func26, Tryz.ntmps26
  go_wp2_with (first
    | (go_at_call 46; refine HT.out.mono ?_; rintro e w2 ⟨rfl, hb2⟩; have hb3 := belowAlloc (belowAlloc hb2 (.cells #[.int .i32 p.1, .int .i32 p.2] 87)) (.cells kindCells.toArray 9); have c2 := (HS.out.below hb3).cell 2 x HX.out)
    | (go_at_call 49; refine (HI.out _ (w2.heap.size + 1) (kind_blk _ _)).mono ?_; rintro e w5 ⟨rfl, hb5⟩))
  have hb := bt hb3 hb5
  have R5 := HR.out.below hb
  obtain ⟨vc, vk, r1, r2, r3, r4, r5⟩ := R5.ex
  have s5 := ((IsBlk.new w2 87 #[.int .i32 p.1, .int .i32 p.2]).alloc _).below hb5
  have d1 := r1.cell 0
  have d2 := r2.cell 1
  have d3 := s5.cell 0
  have d4 := s5.cell 1
  have d5 := r2.frozen 1
  have d6 : ∀ o, (w5.alloc o).frozen? ⟨k.bp, 1, none⟩ = false := fun o => (r2.alloc o).frozen 1
  have n1 := own_ne_blk r4 r1 (by decide)
  have n2 := own_ne_blk r4 r2 (by decide)
  have n3 := own_ne_blk r4 s5 (by decide)
  have l1 := r1.lt
  have l2 := r2.lt
  have l3 := s5.lt
  have hlen : q.kinds.length < 1048577 := by have := R5.nk; have := R5.nl; have := HCL.out; omega
  have hbase5 : base ≤ w5.heap.size := Nat.le_trans HB.out hb.size
  have R5H := Lib.hid R5
  have hbH := Lib.hid hb
  have r1H := Lib.hid r1
  have r2H := Lib.hid r2
  have r3H := Lib.hid r3
  have r4H := Lib.hid r4
  have r5H := Lib.hid r5
  clear R5 c2 hb r1 r2 r3 r5 s5 hb2 hb3 hb5
  simp only [List.getElem?_toArray, List.getElem?_cons_zero, List.getElem?_cons_succ] at d1 d2 d3 d4
  have e1 : ∀ o, (w5.alloc o).cell? ⟨k.rb, 0, none⟩ = some (.pointer (some ⟨k.bp, 0, none⟩)) := fun o => by rw [(r1H.out.alloc o).cell 0]; rfl
  have e2 : ∀ o, (w5.alloc o).cell? ⟨k.bp, 1, none⟩ = some vk := fun o => by rw [(r2H.out.alloc o).cell 1]; rfl
  have fin : ∀ w6 gg cap3, w6.ownsRow base 93 3 (.slice (some ⟨gg, 0, none⟩) (q.kinds.length + 1) cap3) (q.kinds.length + 1) (q.kinds.flatMap rowCells ++ [.int .i32 p.1, .int .i32 p.2, .int .i64 v]) →
      (w5.alloc (.cells #[.int .i32 p.1, .int .i32 p.2, .int .i64 v] 93)).drew.grownBy w6 vk.ownBlock → (vk.ownBlock = some gg ∨ gg = w5.heap.size + 1) →
      RdPost w base k ln line q (.ok ({ q with kinds := q.kinds ++ [(p.1, p.2, v)] }, ln)) (.returned .nilIface) (w6.setCell ⟨k.bp, 1, none⟩ (.slice (some ⟨gg, 0, none⟩) (q.kinds.length + 1) cap3)) := by
    intro w6 gg cap3 h1 h2 h3
    have hA : Below w5.heap.size w5 (w5.alloc (.cells #[.int .i32 p.1, .int .i32 p.2, .int .i64 v] 93)).drew := ((Below.refl _ w5).alloc (Nat.le_refl _) _).drew
    have hbH := hbH.out
    refine ⟨(hbH.mono HB.out).trans (add_base hA h2 r4H.out R5H.out.old.2.1 hbase5), (keeps_below hbH).trans (add_keeps hA h2 r4H.out r2H.out), rfl, ?_⟩
    exact R5H.out.add_kind r1H.out r2H.out r3H.out r4H.out r5H.out HCL.out hA h2 h1 (by simpa using h3)
  have FIN := Lib.hid fin
  clear fin
  go_region_law
    ((refine step_append_lies _ (by rfl) _ _ _ (by rfl) base 93 i0 _ 3 16 Tryz.underlying52 hi0 hz0 hz1 hz2 rfl (by omega) vk q.kinds.length (q.kinds.flatMap rowCells) (by rfl) ((r4H.out.alloc _).drew)
        ⟨w5.heap.size, 0, none⟩ 1 1 [.int .i32 p.1, .int .i32 p.2, .int .i64 v] (by rfl) (by rfl) (World.news_of_block (cs := #[.int .i32 p.1, .int .i32 p.2, .int .i64 v]) (t := 93) (fr := (0, 0)) (heap_alloc_new w5 _)) (by simp [Value.oneCell'])
        (by omega) (by unfold maxLen; omega) (by omega) (by simp; omega) (w5.heap.size + 1) (by simp) ?_; intro gg cap3 w6 hown6 hgrow hat hlt; have m1 := (hgrow.cell_far ⟨k.rb, 0, none⟩ (by simp; omega) (Ne.symm n1)).trans (e1 _); have m2 := (hgrow.cell_far ⟨k.bp, 1, none⟩ (by simp; omega) (Ne.symm n2)).trans (e2 _); have m3 := (hgrow.frozen_far ⟨k.bp, 1, none⟩ (by simp; omega) (Ne.symm n2)).trans (d6 _)))
  all_goals
    go_wp2
    go_ret
    exact FIN.out _ _ _ hown6 hgrow hat

def kndR (q : PP) (ln : List (Int × Int)) : Except Int Row → Except Int (PP × List (Int × Int))
  | .ok x => .ok ({ q with kinds := q.kinds ++ [x] }, ln)
  | .error n => .error n

theorem kind_any (base : Nat) (k : Blks) (q : PP) (ln : List (Int × Int)) (line : Int) (b cap : Nat) (ws : List ByteArray) (w : World) (hr : Rd w base k q ln line) (hbase : base ≤ w.heap.size) (hs : StrsAt w b 0 cap ws) (hg : Gl w) (hcl : (q.kinds.length : Int) < line) :
    Calls Tryz.prog 26 #[.pointer (some ⟨k.rb, 0, none⟩), .slice (some ⟨b, 0, none⟩) ws.length cap] w (RdPost w base k ln line q (kndR q ln (kndF ws))) := by
  cases h3 : threeF ws with
  | error n =>
    have : kndF ws = .error n := by unfold kndF; rw [h3]
    rw [this]
    exact kind_err3 base k q ln line b cap ws w hr hbase hs hg n h3
  | ok p =>
    have hl := threeF_ok h3
    obtain ⟨x, hx⟩ : ∃ x, ws[2]? = some x := ⟨_, List.getElem?_eq_getElem (by omega)⟩
    have hgd : ws.getD 2 ByteArray.empty = x := by rw [List.getD, hx]; rfl
    have hc : kndF ws = if kidF x < 0 then .error 12 else .ok (p.1, p.2, kidF x) := by unfold kndF; rw [h3]; simp only [hgd]
    by_cases hn : kidF x < 0
    · rw [if_pos hn] at hc
      rw [hc]
      exact kind_err12 base k q ln line b cap ws w hr hbase hs hg p h3 x hx hn
    · rw [if_neg hn] at hc
      rw [hc]
      exact kind_ok base k q ln line b cap ws w hr hbase hs hg p h3 hcl x hx hn

end Go.Proofs.YtgidpknckbgmbaaGreatDoor
