/- Small functions of the laws: are two rows the same; one row behind the other; where a row may be cut. A stream: New, End, Write: the Go code does what the plain functions do. -/
import Derived.Test.YtgidpknckbgmbaaGreatDoorCo
import Derived.Deep.RegionHeld3
set_option linter.unusedSimpArgs false
set_option linter.unusedVariables false
namespace Go.Proofs.YtgidpknckbgmbaaGreatDoor
open Go.RowKit Go.Sort

theorem RunesAt.len {n₀ : Nat} {w : World} {v : Value} {l : List Int} (h : RunesAt n₀ w v l) : ∃ a cap, v = .slice a l.length cap ∧ l.length ≤ cap ∧ cap ≤ maxLen ∧ (∀ j x, l[j]? = some x → ∃ b off, a = some ⟨b, off, none⟩ ∧ w.cell? ⟨b, off + j, none⟩ = some (.int .i32 x)) := by
  rcases h.cases with ⟨rfl, rfl⟩ | ⟨b, off, cap, rfl, h1, h2, h3, h4⟩
  · exact ⟨none, 0, rfl, by simp, by unfold maxLen; omega, by simp⟩
  · exact ⟨_, cap, rfl, h1, h2, fun j x hj => ⟨b, off, rfl, h4 j x hj⟩⟩
theorem same_ne {a b : List Int} (hl : a.length = b.length) {j : Nat} {x y : Int} (h1 : a[j]? = some x) (h2 : b[j]? = some y) (h : x ≠ y) : decide (a = b) = false := by
  rw [decide_eq_false_iff_not]
  intro e
  subst e
  rw [h1] at h2
  exact h (Option.some.inj h2)

set_option maxHeartbeats 1000000 in
theorem Same_any (va vb : Value) (la lb : List Int) (na nb : Nat) (w : World) (ha : RunesAt na w va la) (hb : RunesAt nb w vb lb) :
    Calls Tryz.prog 12 #[va, vb] w fun e w' => e = .returned (.bool (decide (la = lb))) ∧ Below w.heap.size w w' := by
  obtain ⟨aa, ca, rfl, a1, a2, a3⟩ := ha.len
  obtain ⟨ab, cb, rfl, b1, b2, b3⟩ := hb.len
  unfold maxLen at a2 b2
  clear ha hb
  by_cases hl : la.length = lb.length
  · obtain ⟨n, hn⟩ : ∃ n, la.length = n := ⟨_, rfl⟩
    have hnb : lb.length = n := by omega
    have HL := Lib.hid hl
    have HNa := Lib.hid hn
    have HNb := Lib.hid hnb
    have HA := Lib.hid a3
    have HB := Lib.hid b3
    rw [hn, hnb]
    rw [hn] at a1
    rw [hnb] at b1
    clear hl hn hnb a3 b3
    go_enter Tryz.func12, Tryz.ntmps12
    go_wp2
    go_loopw [5] (fun v wr => ∃ j : Nat, j ≤ n ∧ v = .int .i64 j ∧ Hid (la.take j = lb.take j) ∧ Hid (Below w.heap.size w wr)) (fun v _ => n - (intOf v).toNat)
    case atStart => exact ⟨0, by omega, rfl, rfl, Below.refl _ _⟩
    case round =>
      obtain ⟨j, hj, rfl, ht, hw⟩ := hrel
      by_cases hjn : j < n
      · have hja : j < la.length := by have := HNa.out; omega
        have hjb : j < lb.length := by have := HNb.out; omega
        obtain ⟨x, hx⟩ : ∃ x, la[j] = x := ⟨_, rfl⟩
        obtain ⟨y, hy⟩ : ∃ y, lb[j] = y := ⟨_, rfl⟩
        have hx? : la[j]? = some x := by rw [List.getElem?_eq_getElem hja, hx]
        have hy? : lb[j]? = some y := by rw [List.getElem?_eq_getElem hjb, hy]
        obtain ⟨ba, oa, rfl, ka⟩ := HA.out j x hx?
        obtain ⟨bb, ob, rfl, kb⟩ := HB.out j y hy?
        have ka2 := (hw.out.cell (World.block_lt_of_cell? _ _ ka)).trans ka
        have kb2 := (hw.out.cell (World.block_lt_of_cell? _ _ kb)).trans kb
        by_cases hxy : x = y
        · subst hxy
          have hnx : Hid (la.take (j + 1) = lb.take (j + 1)) := by
            show _ = _
            rw [List.take_succ_eq_append_getElem hja, List.take_succ_eq_append_getElem hjb, ht.out, hx, hy]
          clear ht hx hy hx? hy? ka kb hja hjb
          go_wp2_with fail
          go_region
          go_wp2
          go_roundw
          case rel => exact ⟨j + 1, by omega, by go_num, hnx, hw.out.drew⟩
          case measure => simp [intOf]; omega
        · have hd := Lib.hid (same_ne HL.out hx? hy? hxy)
          have hne : (x != y) = true := by simp [hxy]
          clear ht hx hy hx? hy? ka kb hja hjb hxy
          go_wp2_with fail
          go_region
          go_wp2
          go_ret
          exact ⟨by rw [hd.out]; rfl, hw.out.drew⟩
      · have hd := Lib.hid (show decide (la = lb) = true by
          rw [decide_eq_true_iff]
          have := ht.out
          rwa [List.take_of_length_le (by have := HNa.out; omega), List.take_of_length_le (by have := HNb.out; omega)] at this)
        clear ht
        go_wp2
        go_ret
        exact ⟨by rw [hd.out]; rfl, hw.out⟩
  · have hd := Lib.hid (show decide (la = lb) = false by rw [decide_eq_false_iff_not]; intro e; exact hl (by rw [e]))
    have hne : ((la.length : Int) != lb.length) = true := by rw [bne_iff_ne]; omega
    clear hl
    go_enter Tryz.func12, Tryz.ntmps12
    go_wp2
    go_ret
    exact ⟨by rw [hd.out]; rfl, Below.refl _ _⟩

/-- 'append(out, l...)', out of the call's own, l whatever. -/
theorem wpList_append_runes {ops : Array Oper} {rest : List Oper} {o : Oper} {a : Act} {Q : Exit → Act → World → Prop} (w : World) (hg : o.guard = none) (s x : Operand)
    (ho : o.op = .call { callee := .builtin .append, args := #[s, x], argTypes := #[22, 22] }) (base : Nat) (v : Value) (l : List Int) (hs : a.eval s = v) (hown : OwnRunes base w v l) (nb : Nat) (vx : Value) (ys : List Int)
    (hx : a.eval x = vx) (hv : RunesAt nb w vx ys) (hn : l.length + ys.length < 1099511627776) (hbase : base ≤ w.heap.size)
    (h : ∀ v' w', OwnRunes base w' v' (l ++ ys) → w.grownBy w' v.ownBlock → SameNew w v v' → wpList Tryz.prog ops Q rest (a.put o.dst v') w') : wpList Tryz.prog ops Q (o :: rest) a w := by
  rcases hv.cases with ⟨rfl, rfl⟩ | ⟨b, off, cap, rfl, h1, h2, h3, h4⟩
  · obtain ⟨i0, hi, hz0, hz1, hz2⟩ := info_parts infoR
    refine wpList_plain hg fun K hK => ?_
    unfold Oper.wp execOp
    obtain ⟨av, cv, hvv, c1, c2⟩ := hown.slice
    have hr : (Builtin.append_ #[22, 22] o.type #[v, .slice none 0 0]).run Tryz.prog w = .ok v w := by
      rw [hvv]
      cases av <;> simp [Builtin.append_, run_underlying Tryz.underlying22, sizeOf, typeInfo, hi, Builtin.lenOf, Builtin.firstCells, loadCells, c1, storeCells]
    simp only [ho, resolve, invoke, builtin, Sem.run_bind, Sem.run_pure, Result.andThen_ok, List.map_toArray, List.map_cons, List.map_nil, hs, hx, hr]
    exact hK _ _ (h v w (by rw [List.append_nil]; exact hown) (World.grownBy.refl _ _) (SameNew.refl _ _))
  · exact wpList_append_rune2 w hg s x ho base v l hs hown ⟨b, off, none⟩ ys.length cap ys hx rfl (fun j y hj => by rw [Addr.add_lit]; exact h4 j y hj) hn hbase h

set_option maxHeartbeats 1000000 in
theorem joined_any (va vb : Value) (la lb : List Int) (w : World) (ha : RunesAt w.heap.size w va la) (hb : RunesAt w.heap.size w vb lb) (hl : la.length + lb.length < 1099511627776) :
    Calls Tryz.prog 15 #[va, vb] w (OwnPost w (la ++ lb)) := by
  have HA := Lib.hid ha
  have HB := Lib.hid hb
  clear ha hb
  go_enter Tryz.func15, Tryz.ntmps15
  go_upto_region 3 with (at_builtin; refine wpList_append_runes _ rfl _ _ rfl w.heap.size _ [] rfl (OwnRunes.nil _ _) w.heap.size va la rfl HA.out (by simp; omega) (Nat.le_refl _) ?_; intro v1 w1 ho1 hg1 hs1)
  have hb1 : Below w.heap.size w w1 := grown_blk hg1 (Nat.le_refl _) (fun g e => by cases e)
  have HB1 := Lib.hid hb1
  have HO1 := Lib.hid ho1
  have hsz := hb1.size
  clear hb1 ho1 hg1 hs1
  rw [List.nil_append] at HO1
  go_wp2_with (at_builtin; refine wpList_append_runes _ rfl _ _ rfl w.heap.size _ la rfl HO1.out w.heap.size vb lb rfl (HB.out.below HB1.out) hl hsz ?_; intro v2 w2 ho2 hg2 hs2)
  go_ret
  exact ⟨_, rfl, ho2, HB1.out.trans (grown_blk hg2 hsz (fun g e => (World.ownsRow.lt HO1.out g e).1))⟩

theorem whole_ne {q : PP} : ∀ (d : Nat) (r : Int), wholeF q d r ≠ []
  | 0, r => by simp [wholeF]
  | d + 1, r => by
    by_cases hd : q.dec r = []
    · rw [wholeF_nil hd]; simp
    · rw [wholeF_cons hd]
      cases e : q.dec r with
      | nil => exact absurd e hd
      | cons x xs =>
        rw [List.flatMap_cons]
        intro h
        exact whole_ne d x (List.append_eq_nil_iff.1 h).1
/-- May a row be cut inside, at a place? -/
def cutF (q : PP) (D : Nat) (x : Int) : Bool := q.cls ((wholeF q D x).headD 0) == 0

set_option maxHeartbeats 1000000 in
set_option maxRecDepth 100000 in
theorem Cut_in (q : PP) (D : Nat) (hf : Fine q D) (bp : Nat) (w : World) (v : Value) (l : List Int) (at_ : Nat) (x : Int) (h0 : PropsAt w bp q) (hv : RunesIn w v l) (h32 : I32 x) (ha : 0 < at_) (hx : l[at_]? = some x) (hl : (wholeF q D x).length < 1099511627776) :
    Calls Tryz.prog 14 #[.pointer (some ⟨bp, 0, none⟩), v, .int .i64 at_] w fun e w' => e = .returned (.bool (cutF q D x)) ∧ Below w.heap.size w w' := by
  obtain ⟨av, cv, rfl, c1, c2, c3⟩ := hv.len
  unfold maxLen at c2
  obtain ⟨b, off, rfl, hc⟩ := c3 at_ x hx
  have hal : at_ < l.length := (List.getElem?_eq_some_iff.1 hx).1
  have hwh := whole_any q hf.d32 hf.d8 bp w h0 D x w.heap.size w (.slice none 0 0) [] (hf.fin x) h32 (Below.refl _ _) (Nat.le_refl _) (Nat.le_refl _) (OwnRunes.nil _ _) (by simpa using hl)
  rw [List.nil_append] at hwh
  obtain ⟨y, ys, hy⟩ : ∃ y ys, wholeF q D x = y :: ys := by
    cases e : wholeF q D x with
    | nil => exact absurd e (whole_ne D x)
    | cons y ys => exact ⟨y, ys, rfl⟩
  have HCut := Lib.hid (show cutF q D x = (q.cls y == 0) by unfold cutF; rw [hy]; rfl)
  rw [hy] at hwh
  have HWh := Lib.hid hwh
  have H0 := Lib.hid h0
  obtain ⟨n, hn⟩ : ∃ n, l.length = n := ⟨_, rfl⟩
  rw [hn] at c1 hal ⊢
  have hw1 : ((at_ : Int) == 0) = false := beq_eq_false_iff_ne.2 (by omega)
  have hw2 : ((at_ : Int) == n) = false := beq_eq_false_iff_ne.2 (by omega)
  have hlt : (at_ : Int) < n := by omega
  have hpos : (0 : Int) < at_ := by omega
  clear hv c3 hx hwh hy h0 hl hn hf
  go_enter Tryz.func14, Tryz.ntmps14
  go_wp2_with fail
  refine HWh.out.mono ?_
  rintro e w1 ⟨v1, rfl, ho1, hg1, hs1⟩
  obtain ⟨g1, cap1, rfl, k1, k2, k3, k4, k5⟩ := ho1.ne_ (by simp)
  have hcy : w1.cell? ⟨g1, 0, none⟩ = some (.int .i32 y) := k5 0 y rfl
  have hb1 : Below w.heap.size w w1 := grown_blk hg1 (Nat.le_refl _) (fun g e => by cases e)
  have hcls := Lib.hid (Class_any bp y q w1 (H0.out.below hb1))
  have HB1 := Lib.hid hb1
  clear ho1 hg1 hs1 hb1 k5
  simp only [List.length_cons] at k1 ⊢
  have hpl : (0 : Int) < ys.length + 1 := by omega
  go_wp2_with (go_at_call 37; refine hcls.out.mono ?_; rintro e w2 ⟨rfl, hb2⟩)
  go_ret
  exact ⟨by rw [HCut.out]; rfl, HB1.out.trans (hb2.mono HB1.out.size)⟩

set_option maxHeartbeats 1000000 in
theorem Cut_out (bp : Nat) (w : World) (v : Value) (l : List Int) (at_ : Int) (hv : RunesIn w v l) (h : at_ ≤ 0 ∨ (l.length : Int) ≤ at_) :
    Calls Tryz.prog 14 #[.pointer (some ⟨bp, 0, none⟩), v, .int .i64 at_] w fun e w' => e = .returned (.bool (decide (at_ = 0 ∨ at_ = l.length))) ∧ w = w' := by
  obtain ⟨av, cv, rfl, c1, c2, c3⟩ := hv.len
  clear hv c3 c2 c1
  obtain ⟨n, hn⟩ : ∃ n, l.length = n := ⟨_, rfl⟩
  rw [hn] at h ⊢
  clear hn
  go_enter Tryz.func14, Tryz.ntmps14
  go_wp2
  all_goals
    go_ret
    exact ⟨ret_bool (by
      rw [Bool.eq_iff_iff]
      try simp
      try omega), rfl⟩

end Go.Proofs.YtgidpknckbgmbaaGreatDoor

namespace Go.Proofs.YtgidpknckbgmbaaGreatDoor
open Go.RowKit Go.Sort

/-- Block sb is a stream with this rest. -/
def StreamAt (w : World) (sb bp : Nat) (vr : Value) : Prop := w.heap[sb]? = some (.cells #[.pointer (some ⟨bp, 0, none⟩), vr] 81 (0, 0))
theorem StreamAt.cells {w : World} {sb bp : Nat} {vr : Value} (h : StreamAt w sb bp vr) : w.cell? ⟨sb, 0, none⟩ = some (.pointer (some ⟨bp, 0, none⟩)) ∧ w.cell? ⟨sb, 1, none⟩ = some vr ∧ w.frozen? ⟨sb, 1, none⟩ = false := by
  unfold StreamAt at h
  simp [World.cell?, World.frozen?, h]
theorem StreamAt.set {w : World} {sb bp : Nat} {vr : Value} (h : StreamAt w sb bp vr) (v : Value) : StreamAt (w.setCell ⟨sb, 1, none⟩ v) sb bp v := by
  unfold StreamAt at h ⊢
  simp [World.setCell, Array.getElem?_modify, h]
theorem StreamAt.lt {w : World} {sb bp : Nat} {vr : Value} (h : StreamAt w sb bp vr) : sb < w.heap.size := (Array.getElem?_eq_some_iff.1 h).1

theorem New_any (bp : Nat) (w : World) : Calls Tryz.prog 16 #[.pointer (some ⟨bp, 0, none⟩)] w fun e w' => e = .returned (.pointer (some ⟨w.heap.size, 0, none⟩)) ∧ StreamAt w' w.heap.size bp (.slice none 0 0) ∧ Below w.heap.size w w' := by
  go_enter Tryz.func16, Tryz.ntmps16
  go_wp2
  go_ret
  exact ⟨rfl, heap_alloc_new w _, (Below.refl _ _).alloc (Nat.le_refl _) _⟩

theorem End_any (sb bp : Nat) (vr : Value) (w : World) (h : StreamAt w sb bp vr) : Calls Tryz.prog 18 #[.pointer (some ⟨sb, 0, none⟩)] w fun e w' => e = .returned vr ∧ w' = w.setCell ⟨sb, 1, none⟩ (.slice none 0 0) := by
  obtain ⟨c0, c1, c2⟩ := h.cells
  clear h
  go_enter Tryz.func18, Tryz.ntmps18
  go_wp2
  go_ret
  exact ⟨rfl, rfl⟩

end Go.Proofs.YtgidpknckbgmbaaGreatDoor
