/- What each law of the layer asks first: it is so. -/
import Derived.Test.YtgidpknckbgmbaaGreatDoorFin
import Derived.Test.YtgidpknckbgmbaaGreatDoorWr
import Derived.Test.YtgidpknckbgmbaaGreatDoorTx2
set_option linter.unusedSimpArgs false
set_option linter.unusedVariables false
namespace Go.Proofs.YtgidpknckbgmbaaGreatDoor
open Go.RowKit Go.Sort

theorem parse_plain (s : ByteArray) (w : World) (hs : s.size ≤ 281474976710656) (hgl : Gl w) : Calls Tryz.prog 8 #[.string s] w (ParsePost w s) := callsIn_wide.1 (parse_any s w hs hgl sort_c)
theorem fine_small : Fine qSmall 3 := by
  obtain ⟨D, h, _⟩ := parse_fine small_parse
  refine ⟨h.d32, h.d8, h.cls, fun r => (fin_keys (q := qSmall) (D := 2) (by decide +kernel) (by decide +kernel) r).1, h.p32⟩
theorem small_1 : dcmpF qSmall 3 [7846, 807] = [65, 807, 768, 769] := by decide +kernel
theorem small_2 : compF qSmall 3 [65, 807, 768] = [192, 807] := by decide +kernel
theorem small_3 : dcmpF qSmall 3 ([] ++ [65, 768]) = [65, 768] := by decide +kernel
theorem small_4 : settF qSmall.cls [65, 768] = 1 := by decide +kernel
theorem small_5 : dcmpF qSmall 3 [192] = [65, 768] := by decide +kernel
theorem small_6 : cutF qSmall 3 66 = true := by decide +kernel
theorem small_7 : cutF qSmall 3 768 = false := by decide +kernel
theorem enc_2 : ((⟨([65, 768].flatMap encB).toArray⟩ : ByteArray)) = sAg2 := by kernel_rfl

theorem lits (w : World) (xs : List Int) (hm : xs.length ≤ 1000) : OwnRunes w.heap.size (w.alloc (.cells (xs.map (Value.int .i32)).toArray 21)) (.slice (some ⟨w.heap.size, 0, none⟩) xs.length xs.length) xs := by
  have := own_full w (xs.map (Value.int .i32)) 21 (by unfold maxLen; simp; omega)
  unfold OwnRunes
  simpa using this

set_option maxHeartbeats 1000000 in
theorem text_ag (bp : Nat) (w : World) (h0 : PropsAt w bp qSmall) : Calls Tryz.prog 20 #[.pointer (some ⟨bp, 0, none⟩), .string sAg, .bool false] w fun e w' => e = .returned (.string sAg2) ∧ Below w.heap.size w w' := by
  have hof := Lib.hid (of_ag w)
  have H0 := Lib.hid h0
  clear h0
  go_enter Tryz.func20, Tryz.ntmps20
  go_upto_region 4 with (go_at_call 19; refine hof.out.mono ?_; rintro e w1 ⟨v1, rfl, ho1, hb1⟩)
  have hd := Decompose_any qSmall 3 fine_small bp w1 v1 [192] (H0.out.below hb1) ho1.runes (by intro x hx; simp at hx; subst hx; unfold I32; omega) (by decide +kernel)
  rw [small_5] at hd
  have HD := Lib.hid hd
  have HB1 := Lib.hid hb1
  clear hd ho1 hb1
  go_upto_region 5 with (go_at_call 10; refine HD.out.mono ?_; rintro e w2 ⟨v2, rfl, ho2, hb2⟩)
  have ht := text_valid w2 v2 [65, 768] ho2.runes (by decide) (by decide) (by simp) (by decide +kernel)
  rw [enc_2] at ht
  have HT := Lib.hid ht
  have HB2 := Lib.hid (HB1.out.trans (hb2.mono HB1.out.size))
  clear ht ho2 hb2
  go_wp2_with (go_at_call 42; refine HT.out.mono ?_; rintro e w3 ⟨rfl, hb3⟩)
  go_ret
  exact ⟨rfl, HB2.out.trans (hb3.mono HB2.out.size)⟩

theorem dec_lit (bp : Nat) (w : World) (h0 : PropsAt w bp qSmall) (a b : Int) (ha : I32 a) (hb : I32 b) (hl : (fullF qSmall 3 [a, b]).length < 1099511627776) :
    Calls Tryz.prog 10 #[.pointer (some ⟨bp, 0, none⟩), .slice (some ⟨w.heap.size, 0, none⟩) 2 2] (w.alloc (.cells #[.int .i32 a, .int .i32 b] 21)) (OwnPost (w.alloc (.cells #[.int .i32 a, .int .i32 b] 21)) (dcmpF qSmall 3 [a, b])) :=
  Decompose_any qSmall 3 fine_small bp _ _ [a, b] (h0.below ((Below.refl _ w).alloc (Nat.le_refl _) _)) (lits w [a, b] (by simp)).runes (by intro x hx; simp at hx; rcases hx with rfl | rfl <;> assumption) hl
theorem comp_lit (bp : Nat) (w : World) (h0 : PropsAt w bp qSmall) (a b c : Int) (ha : I32 a) (hb : I32 b) (hc : I32 c) (hl : (fullF qSmall 3 [a, b, c]).length < 1099511627776) :
    Calls Tryz.prog 11 #[.pointer (some ⟨bp, 0, none⟩), .slice (some ⟨w.heap.size, 0, none⟩) 3 3] (w.alloc (.cells #[.int .i32 a, .int .i32 b, .int .i32 c] 21)) (OwnPost (w.alloc (.cells #[.int .i32 a, .int .i32 b, .int .i32 c] 21)) (compF qSmall 3 [a, b, c])) :=
  Compose_any qSmall 3 fine_small bp _ _ [a, b, c] (h0.below ((Below.refl _ w).alloc (Nat.le_refl _) _)) (lits w [a, b, c] (by simp)).runes (by intro x hx; simp at hx; rcases hx with rfl | rfl | rfl <;> assumption) hl
theorem alloc_below (w : World) (o : Obj) : Below w.heap.size w (w.alloc o) := (Below.refl _ w).alloc (Nat.le_refl _) o
theorem I32.small {x : Int} (h : 0 ≤ x ∧ x ≤ 1114111) : I32 x := by unfold I32; omega
/-- A row told of in a world that only grew. -/
theorem OwnRunes.later {base : Nat} {w w' : World} {v : Value} {l : List Int} (h : OwnRunes base w v l) (hb : Below w.heap.size w w') : OwnRunes base w' v l := h.below hb (Nat.le_refl _)

theorem ChW.runes {w w' : World} {sb bp n : Nat} {vs v : Value} {l : List Int} (h : ChW w w' sb (.slice none 0 0)) (hs : StreamAt w sb bp vs) (hn : n ≤ w.heap.size) (hv : RunesAt n w v l) : RunesAt n w' v l :=
  hv.keep fun b cur fr hb hA => h.block b (by omega) (fun e => by subst e; rw [show w.heap[_]? = _ from hs] at hA; cases hA) (fun e => by cases e)
theorem ChW.below_ {w w' : World} {sb B : Nat} {vr : Value} (h : ChW w w' sb vr) (hB : B ≤ sb) (hw : B ≤ w.heap.size) (hv : ∀ g, vr.ownBlock = some g → B ≤ g) : Below B w w' :=
  ⟨h.os, h.tape, h.output, h.size, fun k hk => h.block k (by omega) (by omega) (fun e => by have := hv k e.symm; omega)⟩

theorem same_lit (n : Nat) (w : World) (v : Value) (xs : List Int) (hv : RunesAt n w v xs) (hn : n ≤ w.heap.size) (hx : xs.length ≤ 1000) :
    Calls Tryz.prog 12 #[v, .slice (some ⟨w.heap.size, 0, none⟩) xs.length xs.length] (w.alloc (.cells (xs.map (Value.int .i32)).toArray 21)) fun e w' => e = .returned (.bool true) ∧ Below w.heap.size w w' := by
  refine (Same_any v _ xs xs n _ _ (hv.below ((alloc_below w _).mono hn)) (lits w xs hx).runes).mono fun e w' ⟨he, hb⟩ => ⟨by simpa using he, (alloc_below w _).trans (hb.mono (by simp))⟩
theorem cut_lit (bp : Nat) (w : World) (h0 : PropsAt w bp qSmall) (a b : Int) (hb : I32 b) (hl : (wholeF qSmall 3 b).length < 1099511627776) :
    Calls Tryz.prog 14 #[.pointer (some ⟨bp, 0, none⟩), .slice (some ⟨w.heap.size, 0, none⟩) 2 2, .int .i64 (1 : Nat)] (w.alloc (.cells #[.int .i32 a, .int .i32 b] 21)) fun e w' => e = .returned (.bool (cutF qSmall 3 b)) ∧ Below w.heap.size w w' := by
  refine (Cut_in qSmall 3 fine_small bp _ _ [a, b] 1 b (h0.below (alloc_below w _)) (lits w [a, b] (by simp)).runes.in_ hb (by omega) rfl hl).mono fun e w' ⟨he, hb⟩ => ⟨he, (alloc_below w _).trans (hb.mono (by simp))⟩

set_option maxHeartbeats 4000000 in
set_option maxRecDepth 100000 in
theorem works_any (w : World) (hgl : Gl w) : Calls Tryz.prog 9 #[] w fun e w' => e = .returned (.bool true) ∧ Below w.heap.size w w' := by
  have hP : Calls Tryz.prog 8 #[.string sSmall] w fun e w' => Below w.heap.size w w' ∧ ∃ bp, e = .returned (.tuple #[.pointer (some ⟨bp, 0, none⟩), .nilIface]) ∧ PropsAt w' bp qSmall :=
    (parse_plain sSmall w (by decide) hgl).mono fun e w' h => by
      unfold ParsePost at h
      rw [small_parse] at h
      exact h
  have HP := Lib.hid hP
  clear hP hgl
  unfold sSmall at HP
  go_enter Tryz.func9, Tryz.ntmps9
  go_upto_region 2 with (go_at_call 8; refine HP.out.mono ?_; rintro e W0 ⟨hb0, bp, rfl, hq0⟩)
  have HB0 := Lib.hid hb0
  have HQ0 := Lib.hid hq0
  have h1 := dec_lit bp W0 hq0 7846 807 (I32.small (by omega)) (I32.small (by omega)) (by decide +kernel)
  rw [small_1] at h1
  have H1 := Lib.hid h1
  clear hb0 hq0 HP h1
  go_upto_region 5 with (go_at_call 10; refine H1.out.mono ?_; rintro e W1 ⟨v1, rfl, ho1, hb1⟩)
  have hb01 : Below W0.heap.size W0 W1 := (alloc_below W0 _).trans (hb1.mono (by simp))
  have HB1 := Lib.hid hb01
  have HR1 := Lib.hid ho1.runes
  have hq1 := HQ0.out.below hb01
  have h2 := comp_lit bp W1 hq1 65 807 768 (I32.small (by omega)) (I32.small (by omega)) (I32.small (by omega)) (by decide +kernel)
  rw [small_2] at h2
  have H2 := Lib.hid h2
  clear ho1 hb1 hb01 hq1 h2 H1
  go_upto_region 6 with (go_at_call 11; refine H2.out.mono ?_; rintro e W2 ⟨v2, rfl, ho2, hb2⟩)
  have hb12 : Below W1.heap.size W1 W2 := (alloc_below W1 _).trans (hb2.mono (by simp))
  have HB2 := Lib.hid (HB1.out.trans (hb12.mono HB1.out.size))
  have HR1' := Lib.hid ((HR1.out.below hb12).more hb12.size)
  have HR2 := Lib.hid ho2.runes
  have H3 := Lib.hid (New_any bp W2)
  clear ho2 hb2 hb12 H2 HR1
  go_upto_region 9 with (go_at_call 16; refine H3.out.mono ?_; rintro e W3 ⟨rfl, hst3, hb3⟩)
  have hb3w := HB2.out.trans (hb3.mono HB2.out.size)
  obtain ⟨sb, hsb⟩ : ∃ sb, W2.heap.size = sb := ⟨_, rfl⟩
  have hsb0 : W0.heap.size ≤ sb := by rw [← hsb]; exact HB2.out.size
  have HR1'' := Lib.hid ((HR1'.out.below hb3).more hb3.size)
  have HR2' := Lib.hid ((HR2.out.below hb3).more hb3.size)
  have hsz3 := hb3.size
  rw [hsb] at hst3 hsz3 ⊢
  have h4 := Write_any qSmall 3 fine_small bp W0 HQ0.out (W3.alloc (.cells #[.int .i32 65, .int .i32 768] 21)) (hb3w.trans ((alloc_below W3 _).mono hb3w.size)) sb W0.heap.size (.slice none 0 0) (.slice (some ⟨W3.heap.size, 0, none⟩) 2 2) [] [65, 768] (hst3.below (alloc_below W3 _)) (OwnRunes.nil _ _) (Nat.le_refl _) (by simp; have := hb3w.size; omega) (fun e => by cases e)
    (lits W3 [65, 768] (by simp)).runes (by intro x hx; simp at hx; rcases hx with rfl | rfl <;> exact I32.small (by omega)) (by decide +kernel) (by decide)
  rw [small_3, small_4] at h4
  have H4 := Lib.hid h4
  have HB3 := Lib.hid hb3w
  have HS3 := Lib.hid hst3
  have HSb := Lib.hid hsb
  clear hst3 hb3 hb3w hsb h4 H3 HR1' HR2
  go_upto_region 10 with (go_at_call 17; refine H4.out.mono ?_; rintro e W4 ⟨⟨v4, vr, rfl, hr4, hg4, ho4, hst4, hne4⟩, hch⟩)
  have hst3a := HS3.out.below (alloc_below W3 (.cells #[.int .i32 65, .int .i32 768] 21))
  have HR1a := Lib.hid ((hch.runes hst3a (by simp) (HR1''.out.below (alloc_below W3 _))).more (Nat.le_trans (by simp) hch.size))
  have HR2a := Lib.hid ((hch.runes hst3a (by simp) (HR2'.out.below (alloc_below W3 _))).more (Nat.le_trans (by simp) hch.size))
  have hb4 : Below W0.heap.size W0 W4 := (HB3.out.trans ((alloc_below W3 _).mono HB3.out.size)).trans (hch.below_ hsb0 (by simp; exact Nat.le_trans HB3.out.size (Nat.le_succ _)) (fun g e => by cases e))
  have H5 := Lib.hid (End_any sb bp vr W4 hst4)
  have HR3a := Lib.hid hr4
  have HR4a := Lib.hid ho4.runes
  have HS4 := Lib.hid hst4
  have HB4 := Lib.hid hb4
  clear hch hst3a hb4 hr4 hg4 ho4 hst4 hne4 H4 HR1'' HR2'
  go_upto_region 11 with (go_at_call 18; refine H5.out.mono ?_; rintro e W5 ⟨rfl, hW5⟩; have HW5 := Lib.hid hW5; clear hW5)
  have hW5 := HW5.out
  have hsz5 : W5.heap.size = W4.heap.size := by rw [hW5]; simp
  have HR1b := Lib.hid (show RunesAt W5.heap.size W5 v1 [65, 807, 768, 769] by rw [hsz5, hW5]; exact runes_setCell HS4.out HR1a.out)
  have HR2b := Lib.hid (show RunesAt W5.heap.size W5 v2 [192, 807] by rw [hsz5, hW5]; exact runes_setCell HS4.out HR2a.out)
  have HR3b := Lib.hid (show RunesAt W5.heap.size W5 v4 [65] by rw [hsz5, hW5]; exact runes_setCell HS4.out HR3a.out)
  have HR4b := Lib.hid (show RunesAt W5.heap.size W5 vr [768] by rw [hsz5, hW5]; exact runes_setCell HS4.out HR4a.out)
  have HB5 := Lib.hid (show Below W0.heap.size W0 W5 by rw [hW5]; exact HB4.out.setCell (by simpa using hsb0) _)
  clear HW5 hW5 hsz5 HR1a HR2a HR3a HR4a HB4 HS4 H5 HS3 HB3
  have s1x := same_lit _ W5 v1 _ HR1b.out (Nat.le_refl _) (by simp)
  simp only [List.map_cons, List.map_nil, List.length_cons, List.length_nil, Nat.reduceAdd, Nat.zero_add] at s1x
  have s1 := Lib.hid s1x
  clear s1x
  go_wp2_with fail
  refine s1.out.mono ?_
  rintro e W6 ⟨rfl, hb6⟩
  have s2x := same_lit _ W6 v2 _ (HR2b.out.below hb6) hb6.size (by simp)
  simp only [List.map_cons, List.map_nil, List.length_cons, List.length_nil, Nat.reduceAdd, Nat.zero_add] at s2x
  have s2 := Lib.hid s2x
  clear s2x
  go_wp2_with fail
  refine s2.out.mono ?_
  rintro e W7 ⟨rfl, hb7⟩
  have hb57 := hb6.trans (hb7.mono hb6.size)
  have s3x := same_lit _ W7 v4 _ (HR3b.out.below hb57) hb57.size (by simp)
  simp only [List.map_cons, List.map_nil, List.length_cons, List.length_nil, Nat.reduceAdd, Nat.zero_add] at s3x
  have s3 := Lib.hid s3x
  clear s3x
  go_wp2_with fail
  refine s3.out.mono ?_
  rintro e W8 ⟨rfl, hb8⟩
  have hb58 := hb57.trans (hb8.mono hb57.size)
  have s4x := same_lit _ W8 vr _ (HR4b.out.below hb58) hb58.size (by simp)
  simp only [List.map_cons, List.map_nil, List.length_cons, List.length_nil, Nat.reduceAdd, Nat.zero_add] at s4x
  have s4 := Lib.hid s4x
  clear s4x
  go_wp2_with fail
  refine s4.out.mono ?_
  rintro e W9 ⟨rfl, hb9⟩
  have hb09 := HB5.out.trans ((hb58.trans (hb9.mono hb58.size)).mono HB5.out.size)
  have h5 := text_ag bp W9 (HQ0.out.below hb09)
  unfold sAg sAg2 at h5
  have s5 := Lib.hid h5
  clear h5
  have hEq : ((⟨#[65, 204, 128]⟩ : ByteArray) == ⟨#[65, 204, 128]⟩) = true := by decide
  go_wp2_with fail
  refine s5.out.mono ?_
  rintro e W10 ⟨rfl, hb10⟩
  have hb010 := hb09.trans (hb10.mono hb09.size)
  have h6 := cut_lit bp W10 (HQ0.out.below hb010) 65 66 (I32.small (by omega)) (by decide +kernel)
  rw [small_6] at h6
  have s6 := Lib.hid h6
  clear h6
  go_wp2_with fail
  refine s6.out.mono ?_
  rintro e W11 ⟨rfl, hb11⟩
  have hb011 := hb010.trans (hb11.mono hb010.size)
  have h7 := cut_lit bp W11 (HQ0.out.below hb011) 65 768 (I32.small (by omega)) (by decide +kernel)
  rw [small_7] at h7
  have s7 := Lib.hid h7
  clear h7
  go_wp2_with fail
  refine s7.out.mono ?_
  rintro e W12 ⟨rfl, hb12⟩
  go_wp2
  go_ret
  exact ⟨rfl, HB0.out.trans ((hb011.trans (hb12.mono hb011.size)).mono HB0.out.size)⟩

end Go.Proofs.YtgidpknckbgmbaaGreatDoor
