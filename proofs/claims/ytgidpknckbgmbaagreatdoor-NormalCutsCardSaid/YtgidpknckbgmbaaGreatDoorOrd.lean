/- The marks of a row put in order: the Go code does what the plain function does. -/
import Derived.Test.YtgidpknckbgmbaaGreatDoorSt6
import Derived.Test.YtgidpknckbgmbaaGreatDoorWh
import Derived.Test.YtgidpknckbgmbaaGreatDoorSr13
set_option linter.unusedSimpArgs false
set_option linter.unusedVariables false
namespace Go.Proofs.YtgidpknckbgmbaaGreatDoor
open Go.RowKit Go.Sort

/-- Classes are small. -/
def Cls8 (q : PP) : Prop := ∀ r, 0 ≤ q.cls r ∧ q.cls r ≤ 254

set_option maxHeartbeats 1000000 in
theorem cmp_ok (q : PP) (hk : Cls8 q) (bp pb blk : Nat) (w0 W0 : World) (hq : PropsAt w0 bp q) (hb : Below w0.heap.size w0 W0) (hblk : w0.heap.size ≤ blk) (hpb : W0.cell? ⟨pb, 0, none⟩ = some (.pointer (some ⟨bp, 0, none⟩))) (hne : pb ≠ blk) : CmpOK W0 blk pb q.cls := by
  intro w hg x y
  have hbw : Below w0.heap.size w0 w := hb.trans (grown_blk hg hb.size (fun g e => by cases e; exact hblk))
  have hqw := hq.below hbw
  have hpw : w.cell? ⟨pb, 0, none⟩ = some (.pointer (some ⟨bp, 0, none⟩)) := hg.cell hpb (fun e => hne (by cases e; rfl))
  have mixed : Tryz.prog.follows .mixedOrders = true := by kernel_rfl
  have c1 : ∀ p : BelowBy w, p.W.cell? ⟨pb, 0, none⟩ = some (.pointer (some ⟨bp, 0, none⟩)) := fun p => (p.h.cell (World.block_lt_of_cell? _ _ hpw)).trans hpw
  have hcx := Lib.hid fun p : BelowBy w => Class_any bp x q p.W (hqw.below p.h)
  have hcy := Lib.hid fun p : BelowBy w => Class_any bp y q p.W (hqw.below p.h)
  have k1 := hk x
  have k2 := hk y
  have hwr : IntKind.i64.wrap (q.cls x - q.cls y) = q.cls x - q.cls y := by rw [IntKind.wrap_i64]; omega
  clear hg hbw hqw hpw hpb hk hq hb
  go_enter Tryz.func58, Tryz.ntmps58
  go_wp2_with fail
  refine wp_region_quiet_below mixed (by kernel_rfl) ?_
  repeat (quiet_step ((first | (go_at_call 37; with_reducible exact below_by (hcx.out _)) | (go_at_call 37; with_reducible exact below_by (hcy.out _)))))
  refine wpQuiet_nil ?_
  intro w3 hw'
  obtain ⟨⟨w4, hw3⟩, hw''⟩ := hw'
  change w3 = w4 at hw''
  subst hw''
  clear hwr
  go_wp2
  go_ret
  exact ⟨rfl, hw3⟩

/-- The row in order: between two points of class 0 what stands is sorted stably. -/
def ordG (k : Int → Int) : List Int → List Int → List Int
  | seg, [] => ssort k seg
  | seg, x :: r => if k x = 0 then ssort k seg ++ x :: ordG k [] r else ordG k (seg ++ [x]) r
def orderF (k : Int → Int) (l : List Int) : List Int := ordG k [] l
theorem ordG_len (k : Int → Int) : ∀ (r seg : List Int), (ordG k seg r).length = seg.length + r.length
  | [], seg => by simp [ordG, ssort_len]
  | x :: r, seg => by
    unfold ordG
    split
    · simp [ordG_len k r, ssort_len]
    · rw [ordG_len k r]; simp; omega
theorem orderF_len (k : Int → Int) (l : List Int) : (orderF k l).length = l.length := by simpa [orderF] using ordG_len k l []

def OrdPost2 (w : World) (base : Nat) (v : Value) (l : List Int) (e : Ending) (w' : World) : Prop := e = .returned (.tuple #[]) ∧ OwnRunes base w' v l ∧ w.grownBy w' v.ownBlock

theorem drop_at (k : Int → Int) (l : List Int) (i : Nat) (hi : i < l.length) (X : List Int) : ordG k X (l.drop i) = if k l[i] = 0 then ssort k X ++ l[i] :: ordG k [] (l.drop (i + 1)) else ordG k (X ++ [l[i]]) (l.drop (i + 1)) := by
  rw [List.drop_eq_getElem_cons hi]
  rfl

/-- The row as it stands when place i is come to: what is done, the marks since then, what is not looked at. -/
def OrdSt (k : Int → Int) (l : List Int) (g S : Nat) (wr : World) (i from_ : Nat) : Prop :=
  (i ≤ l.length ∧ ∃ P X, P.length = from_ ∧ from_ + X.length = i ∧ orderF k l = P ++ ordG k X (l.drop i) ∧ RW g S (P ++ (X ++ l.drop i)).toArray wr) ∨ (i = l.length + 1 ∧ RW g S (orderF k l).toArray wr)

set_option maxHeartbeats 2000000 in
set_option maxRecDepth 100000 in
theorem order_some (q : PP) (hk : Cls8 q) (bp : Nat) (w0 : World) (h0 : PropsAt w0 bp q) (base : Nat) (w : World) (g cap : Nat) (l : List Int) (hw : Below w0.heap.size w0 w) (hb1 : w0.heap.size ≤ base)
    (hown : OwnRunes base w (.slice (some ⟨g, 0, none⟩) l.length cap) l) (hl : l.length ≤ 1099511627776) :
    Calls Tryz.prog 36 #[.pointer (some ⟨bp, 0, none⟩), .slice (some ⟨g, 0, none⟩) l.length cap] w (OrdPost2 w base (.slice (some ⟨g, 0, none⟩) l.length cap) (orderF q.cls l)) := by
  have mixed : Tryz.prog.follows .mixedOrders = true := by kernel_rfl
  obtain ⟨S, hS, hback⟩ := own_rw hown
  obtain ⟨hgb, hgl⟩ := World.ownsRow.lt hown g rfl
  have hcap : l.length ≤ cap ∧ cap ≤ 9223372036854775807 := by
    obtain ⟨_, ⟨e, _⟩ | ⟨g', cap', cur, e, _, _, hc, hm, _⟩⟩ := hown
    · cases e
    · cases e
      unfold maxLen at hm
      exact ⟨hc, by omega⟩
  have hcmp : CmpOK (w.alloc (.cells #[.pointer (some ⟨bp, 0, none⟩)] 23)) g w.heap.size q.cls :=
    cmp_ok q hk bp w.heap.size g w0 _ h0 (hw.trans (((Below.refl _ w).alloc (Nat.le_refl _) _).mono hw.size)) (by omega) (cell_new w _ _) (by omega)
  have hpc := cell_new w (.pointer (some ⟨bp, 0, none⟩)) 23
  have hq1 : Below w0.heap.size w0 (w.alloc (.cells #[.pointer (some ⟨bp, 0, none⟩)] 23)) := hw.trans (((Below.refl _ w).alloc (Nat.le_refl _) _).mono hw.size)
  have hg1 : w.grownBy (w.alloc (.cells #[.pointer (some ⟨bp, 0, none⟩)] 23)) (some g) := World.grownBy_alloc _ _ _
  have hR1 := hS.same (w' := w.alloc (.cells #[.pointer (some ⟨bp, 0, none⟩)] 23)) (Below.heap_alloc w _ g hgl)
  have hszx : (w.alloc (.cells #[.pointer (some ⟨bp, 0, none⟩)] 23)).heap.size = w.heap.size + 1 := by simp
  obtain ⟨n, hn⟩ : ∃ n, l.length = n := ⟨_, rfl⟩
  rw [hn] at hcap hl ⊢
  have HN := Lib.hid hn
  have HB := Lib.hid hback
  have HK := Lib.hid hk
  have H00 := Lib.hid h0
  clear hown hS h0 hw hn hback hk
  go_enter Tryz.func36, Tryz.ntmps36
  go_upto_region 4 with fail
  generalize hW1 : w.alloc (.cells #[.pointer (some ⟨bp, 0, none⟩)] 23) = W1 at hcmp hpc hq1 hg1 hR1 hszx ⊢
  clear hW1
  have H0 : Hid (OrdSt q.cls l g S W1 0 0) := .inl ⟨Nat.zero_le _, [], [], rfl, rfl, rfl, by simpa using hR1⟩
  have HC := Lib.hid hcmp
  have HP := Lib.hid (And.intro hpc hq1)
  have HW := Lib.hid hg1
  have HZ := Lib.hid hszx
  clear hR1 hcmp hpc hq1 hg1 hszx
  go_loopw [5, 11] (fun vf vi wr => ∃ i f : Nat, i ≤ n + 1 ∧ f ≤ i ∧ vi = .int .i64 i ∧ vf = .int .i64 f ∧ Hid (OrdSt q.cls l g S wr i f) ∧ Hid (W1.grownBy wr (some g)))
    (fun _ vi _ => n + 1 - (intOf vi).toNat)
  case atStart => exact ⟨0, 0, by omega, by omega, rfl, rfl, H0, World.grownBy.refl _ _⟩
  case round =>
    obtain ⟨i, f, hi, hf, rfl, rfl, hst, hgr⟩ := hrel
    clear H0
    have hpw : wr.cell? ⟨w.heap.size, 0, none⟩ = some (.pointer (some ⟨bp, 0, none⟩)) := hgr.out.cell HP.out.1 (fun e => by have := Option.some.inj e; simp at this; omega)
    have c1 : ∀ p : BelowBy wr, p.W.cell? ⟨w.heap.size, 0, none⟩ = some (.pointer (some ⟨bp, 0, none⟩)) := fun p => (p.h.cell (World.block_lt_of_cell? _ _ hpw)).trans hpw
    clear hpw
    by_cases hin : i < n
    · obtain ⟨hil, P, X, p1, p2, p3, p4⟩ : i ≤ l.length ∧ ∃ P X, P.length = f ∧ f + X.length = i ∧ orderF q.cls l = P ++ ordG q.cls X (l.drop i) ∧ RW g S (P ++ (X ++ l.drop i)).toArray wr := by
        rcases hst.out with h | ⟨h, _⟩
        · exact h
        · have := HN.out; omega
      have hil2 : i < l.length := by have := HN.out; omega
      obtain ⟨x, hx⟩ : ∃ x, l[i] = x := ⟨_, rfl⟩
      have hda := drop_at q.cls l i hil2 X
      rw [hx] at hda
      rw [hda] at p3
      rw [List.drop_eq_getElem_cons hil2, hx] at p4
      have c2 : ∀ p : BelowBy wr, p.W.cell? ⟨g, i, none⟩ = some (.int .i32 x) := fun p => by
        have := p4.below p.h
        rw [← List.append_assoc] at this
        exact this.at (by simp; omega)
      have hne : ((i : Int) == n) = false := beq_eq_false_iff_ne.2 (by omega)
      have hqw : PropsAt wr bp q := H00.out.below (HP.out.2.trans (grown_blk hgr.out HP.out.2.size (fun e h => by cases h; omega)))
      have hcl := Lib.hid fun p : BelowBy wr => Class_any bp x q p.W (hqw.below p.h)
      have hcp : i ≤ cap := by omega
      have HP4 := Lib.hid p4
      have HP3 := Lib.hid p3
      have HP1 := Lib.hid (And.intro p1 p2)
      have hin2 : i < n := hin
      clear hst hda hx hil hil2 hqw p1 p2 p3 p4
      by_cases hx0 : q.cls x = 0
      · have hb0 : (q.cls x == 0) = true := beq_iff_eq.2 hx0
        go_wp2_with fail
        refine wp_region_quiet_below mixed (by kernel_rfl) ?_
        repeat (quiet_step ((go_at_call 37; exact below_by (hcl.out _))))
        refine wpQuiet_nil ?_
        intro w3 hw'
        obtain ⟨⟨w4, hw3⟩, hw''⟩ := hw'
        change w3 = w4 at hw''
        subst hw''
        have hR3 := Lib.hid (HP4.out.below hw3)
        have hg3 := Lib.hid (grown_below hgr.out hw3)
        have e3 := HP3.out
        rw [if_pos hx0] at e3
        have HE3 := Lib.hid e3
        have hso := sortStable_any W1 q.cls w.heap.size g S f (i - f) (cap - f) P X (x :: l.drop (i + 1)) w3 HC.out hg3.out hR3.out HP1.out.1 (by have := HP1.out.2; omega) (by omega)
        unfold cmpV at hso
        have HSO := Lib.hid hso
        clear c1 c2 hcl hgr hw3 hx0 HP4 HP3 e3 hso hR3
        go_wp2_with fail
        refine HSO.out.mono ?_
        rintro e w5 ⟨rfl, hR5, hg5⟩
        go_wp2
        go_roundw
        case rel => exact ⟨i + 1, i + 1, by omega, by omega, by go_num, by go_num, .inl ⟨by have := HN.out; omega, P ++ (ssort q.cls X ++ [x]), [], by have := HP1.out; simp [ssort_len]; omega, by simp, by rw [HE3.out]; simp, by simpa using hR5⟩, hg5⟩
        case measure => simp [intOf]; omega
      · have hb0 : (q.cls x == 0) = false := beq_eq_false_iff_ne.2 hx0
        go_wp2_with fail
        refine wp_region_quiet_below mixed (by kernel_rfl) ?_
        repeat (quiet_step ((go_at_call 37; exact below_by (hcl.out _))))
        refine wpQuiet_nil ?_
        intro w3 hw'
        obtain ⟨⟨w4, hw3⟩, hw''⟩ := hw'
        change w3 = w4 at hw''
        subst hw''
        have hR3 := Lib.hid (HP4.out.below hw3)
        have hg3 := Lib.hid (grown_below hgr.out hw3)
        have e3 := HP3.out
        rw [if_neg hx0] at e3
        have HE3 := Lib.hid e3
        clear c1 c2 hcl hgr hw3 HP4 HP3 e3
        go_wp2
        go_roundw
        case rel => exact ⟨i + 1, f, by omega, by omega, by go_num, rfl, .inl ⟨by have := HN.out; omega, P, X ++ [x], HP1.out.1, by have := HP1.out; simp; omega, HE3.out, by simpa using hR3.out⟩, hg3⟩
        case measure => simp [intOf]; omega
    · by_cases hie : i = n
      · obtain ⟨hil, P, X, p1, p2, p3, p4⟩ : i ≤ l.length ∧ ∃ P X, P.length = f ∧ f + X.length = i ∧ orderF q.cls l = P ++ ordG q.cls X (l.drop i) ∧ RW g S (P ++ (X ++ l.drop i)).toArray wr := by
          rcases hst.out with h | ⟨h, _⟩
          · exact h
          · have := HN.out; omega
        rw [List.drop_of_length_le (by have := HN.out; omega)] at p3 p4
        have heq : ((i : Int) == n) = true := beq_iff_eq.2 (by omega)
        have hi1 : i ≤ n ∧ n ≤ i ∧ (i : Int) < n + 1 := by omega
        have HP4 := Lib.hid p4
        have HP3 := Lib.hid p3
        have HP1 := Lib.hid (And.intro p1 p2)
        have hcp : i ≤ cap := by omega
        clear hst hil p1 p2 p3 p4 hie hin
        go_wp2_with fail
        refine wp_region_quiet_below mixed (by kernel_rfl) ?_
        repeat (quiet_step (fail))
        refine wpQuiet_nil ?_
        intro w3 hw'
        obtain ⟨⟨w4, hw3⟩, hw''⟩ := hw'
        change w3 = w4 at hw''
        subst hw''
        have hR3 := HP4.out.below hw3
        have hg3 := grown_below hgr.out hw3
        have hso : ∃ a cp, (f < cap → a = f ∧ cp = cap - f) ∧ (¬ f < cap → a = 0 ∧ cp = 0) ∧ Calls Tryz.prog 59 #[.slice (some ⟨g, a, none⟩) (i - f) cp, cmpV w.heap.size] w3 (StPost W1 g S (P ++ (ssort q.cls X ++ []))) := by
          by_cases hfc : f < cap
          · exact ⟨f, cap - f, fun _ => ⟨rfl, rfl⟩, fun h => absurd hfc h, sortStable_any W1 q.cls w.heap.size g S f (i - f) (cap - f) P X [] w3 HC.out hg3 hR3 HP1.out.1 (by have := HP1.out.2; omega) (by omega)⟩
          · have hX : X = [] := List.length_eq_zero_iff.1 (by have := HP1.out; omega)
            subst hX
            have hif : i - f = 0 := by have := HP1.out.2; simp at this; omega
            refine ⟨0, 0, fun h => absurd h hfc, fun _ => ⟨rfl, rfl⟩, ?_⟩
            have := sortStable_any W1 q.cls w.heap.size g S 0 0 0 [] [] P w3 HC.out hg3 (by simpa using hR3) rfl rfl (by omega)
            rw [hif]
            simpa [ssort] using this
        obtain ⟨a0, cp, ha1, ha2, hso⟩ := hso
        unfold cmpV at hso
        have HSO := Lib.hid hso
        have HG3 := Lib.hid hg3
        have HA := Lib.hid (And.intro ha1 ha2)
        clear c1 hgr hw3 HP4 hso hR3 hg3 ha1 ha2
        by_cases hfc : f < cap
        · obtain ⟨rfl, rfl⟩ : a0 = f ∧ cp = cap - f := HA.out.1 hfc
          go_wp2_with fail
          refine HSO.out.mono ?_
          rintro e w5 ⟨rfl, hR5, hg5⟩
          go_wp2
          go_roundw
          case rel => exact ⟨i + 1, i + 1, by omega, by omega, by go_num, by go_num, .inr ⟨by have := HN.out; omega, by rw [HP3.out]; simpa [ordG] using hR5⟩, hg5⟩
          case measure => simp [intOf]; omega
        · obtain ⟨rfl, rfl⟩ : a0 = 0 ∧ cp = 0 := HA.out.2 hfc
          have hcf : cap ≤ f := by omega
          go_wp2_with fail
          refine HSO.out.mono ?_
          rintro e w5 ⟨rfl, hR5, hg5⟩
          go_wp2
          go_roundw
          case rel => exact ⟨i + 1, i + 1, by omega, by omega, by go_num, by go_num, .inr ⟨by have := HN.out; omega, by rw [HP3.out]; simpa [ordG] using hR5⟩, hg5⟩
          case measure => simp [intOf]; omega
      · obtain hRf : RW g S (orderF q.cls l).toArray wr := by
          rcases hst.out with ⟨h, _⟩ | ⟨_, h⟩
          · have := HN.out; omega
          · exact h
        have hfin := HB.out wr (orderF q.cls l).toArray (by simp [orderF_len]) hRf
        have hin2 : ¬ (i : Int) < n + 1 := by omega
        rw [HN.out] at hfin
        have HFi := Lib.hid hfin
        clear hst hRf hfin c1
        go_wp2
        go_end0
        exact ⟨rfl, by simpa using HFi.out, HW.out.trans hgr.out⟩

set_option maxHeartbeats 2000000 in
set_option maxRecDepth 100000 in
theorem order_nil (q : PP) (bp : Nat) (w : World) : Calls Tryz.prog 36 #[.pointer (some ⟨bp, 0, none⟩), .slice none 0 0] w fun e w' => e = .returned (.tuple #[]) ∧ Below w.heap.size w w' := by
  have mixed : Tryz.prog.follows .mixedOrders = true := by kernel_rfl
  have hso := fun w1 => sortStable_nil w.heap.size w1
  unfold cmpV at hso
  have HSO := Lib.hid hso
  clear hso
  have hb0 : Below w.heap.size w (w.alloc (.cells #[.pointer (some ⟨bp, 0, none⟩)] 23)) := (Below.refl _ w).alloc (Nat.le_refl _) _
  have HB0 := Lib.hid hb0
  clear hb0
  go_enter Tryz.func36, Tryz.ntmps36
  go_wp2_with fail
  generalize hW1 : w.alloc (.cells #[.pointer (some ⟨bp, 0, none⟩)] 23) = W1 at HB0 ⊢
  clear hW1
  go_loopw [5, 11] (fun vf vi wr => ∃ i : Nat, i ≤ 1 ∧ vi = .int .i64 i ∧ Hid (vf = .int .i64 i) ∧ Hid (Below w.heap.size w wr)) (fun _ vi _ => 1 - (intOf vi).toNat)
  case atStart => exact ⟨0, by omega, rfl, rfl, HB0⟩
  case round =>
    obtain ⟨i, hi, rfl, hv, hb⟩ := hrel
    clear HB0
    by_cases h0 : i = 0
    · subst h0
      have hvv := hv.out
      subst hvv
      clear hv
      go_wp2_with fail
      refine wp_region_quiet_below mixed (by kernel_rfl) ?_
      repeat (quiet_step (fail))
      refine wpQuiet_nil ?_
      intro w3 hw'
      obtain ⟨⟨w4, hw3⟩, hw''⟩ := hw'
      change w3 = w4 at hw''
      subst hw''
      have hb3 := Lib.hid (hb.out.trans (hw3.mono hb.out.size))
      clear hb hw3
      go_wp2_with fail
      refine (HSO.out _).mono ?_
      rintro e w5 ⟨rfl, rfl⟩
      go_wp2
      go_roundw
      case rel => exact ⟨1, by omega, by go_num, rfl, hb3⟩
      case measure => simp [intOf]
    · obtain rfl : i = 1 := by omega
      have hvv := hv.out
      subst hvv
      clear hv
      go_wp2
      go_end0
      exact ⟨rfl, hb.out⟩

/-- The order of a slice of the call's own. -/
theorem order_any (q : PP) (hk : Cls8 q) (bp : Nat) (w0 : World) (h0 : PropsAt w0 bp q) (base : Nat) (w : World) (v : Value) (l : List Int) (hw : Below w0.heap.size w0 w) (hb1 : w0.heap.size ≤ base)
    (hown : OwnRunes base w v l) (hl : l.length ≤ 1099511627776) :
    Calls Tryz.prog 36 #[.pointer (some ⟨bp, 0, none⟩), v] w (OrdPost2 w base v (orderF q.cls l)) := by
  have h := hown
  obtain ⟨h1, ⟨rfl, h2⟩ | ⟨g, cap, cur, rfl, r⟩⟩ := hown
  · obtain rfl : l = [] := List.length_eq_zero_iff.1 h2
    exact (order_nil q bp w).mono fun e w' ⟨he, hb⟩ => ⟨he, OwnRunes.nil _ _, grown_of_below hb _⟩
  · exact order_some q hk bp w0 h0 base w g cap l hw hb1 h hl

end Go.Proofs.YtgidpknckbgmbaaGreatDoor
