/- NormalCuts: the Go law returns true at every input. NormalCuts: the walk. -/
import Derived.Test.YtgidpknckbgmbaaGreatDoorWk
set_option linter.unusedSimpArgs false
set_option linter.unusedVariables false
namespace Go.Proofs.YtgidpknckbgmbaaGreatDoor
open Go.RowKit Go.Sort

theorem ordG_cut (k : Int → Int) (y : Int) (ys : List Int) (hy : k y = 0) : ∀ (xs seg : List Int), ordG k seg (xs ++ y :: ys) = ordG k seg xs ++ orderF k (y :: ys)
  | [], seg => by
    unfold orderF
    simp [ordG, hy, ssort]
  | x :: xs, seg => by
    simp only [List.cons_append, ordG]
    split
    · rw [ordG_cut k y ys hy xs []]; simp
    · exact ordG_cut k y ys hy xs _
/-- A row that is cut where it may be is decomposed piece by piece. -/
theorem cut_law {q : PP} {D : Nat} {l : List Int} {at_ : Nat} (h : at_ = 0 ∨ at_ = l.length ∨ ∃ x, l[at_]? = some x ∧ cutF q D x = true) : dcmpF q D (l.take at_) ++ dcmpF q D (l.drop at_) = dcmpF q D l := by
  have hnil : dcmpF q D [] = [] := by simp [dcmpF, fullF, orderF, ordG, ssort]
  rcases h with rfl | rfl | ⟨x, hx, hc⟩
  · simp [hnil]
  · simp [hnil]
  · obtain ⟨hlt, rfl⟩ := List.getElem?_eq_some_iff.1 hx
    obtain ⟨y, ys, hy⟩ : ∃ y ys, wholeF q D l[at_] = y :: ys := by
      cases e : wholeF q D l[at_] with
      | nil => exact absurd e (whole_ne D _)
      | cons y ys => exact ⟨y, ys, rfl⟩
    have hk : q.cls y = 0 := by unfold cutF at hc; rw [hy] at hc; simpa using hc
    have e1 : fullF q D (l.drop at_) = y :: (ys ++ fullF q D (l.drop (at_ + 1))) := by
      rw [List.drop_eq_getElem_cons hlt]
      unfold fullF
      rw [List.flatMap_cons, hy]
      rfl
    have e2 : fullF q D l = fullF q D (l.take at_) ++ fullF q D (l.drop at_) := by
      conv => lhs; rw [← List.take_append_drop at_ l]
      unfold fullF
      rw [List.flatMap_append]
    unfold dcmpF
    rw [e2, e1]
    exact (ordG_cut q.cls y _ hk _ []).symm

theorem RunesIn.sub {w : World} {b off cap n : Nat} {l : List Int} (h : RunesIn w (.slice (some ⟨b, off, none⟩) n cap) l) (hn : l.length = n) {i : Nat} (hi : i ≤ n) : RunesIn w (.slice (some ⟨b, off, none⟩) i cap) (l.take i) ∧
    (i < cap → RunesIn w (.slice (some ⟨b, off + i, none⟩) (n - i) (cap - i)) (l.drop i)) ∧ (¬ i < cap → RunesIn w (.slice (some ⟨b, off, none⟩) (n - i) 0) (l.drop i)) := by
  rcases h with ⟨e, _⟩ | ⟨b', off', cap', e, hc, hm, hx⟩
  · cases e
  · simp only [Value.slice.injEq, Option.some.injEq, Addr.mk.injEq, and_true] at e
    obtain ⟨⟨rfl, rfl⟩, _, rfl⟩ := e
    subst hn
    refine ⟨.inr ⟨b, off, cap, by simp; omega, by simp; omega, hm, fun j x hj => ?_⟩, fun hlt => .inr ⟨b, off + i, cap - i, by simp, by simp; omega, by omega, fun j x hj => ?_⟩, fun hge => ?_⟩
    · rw [List.getElem?_take] at hj
      split at hj
      · exact hx j x hj
      · cases hj
    · rw [List.getElem?_drop] at hj
      have := hx (i + j) x hj
      rwa [← Nat.add_assoc] at this
    · have e0 : l.drop i = [] := List.drop_of_length_le (by omega)
      exact .inr ⟨b, off, 0, by rw [e0]; simp; omega, by rw [e0]; simp, by unfold maxLen; omega, fun j x hj => by rw [e0] at hj; cases hj⟩

theorem full_small {q : PP} {D : Nat} (h : ∀ r, (wholeF q D r).length ≤ 8) : ∀ l : List Int, (fullF q D l).length ≤ 8 * l.length
  | [] => by simp [fullF]
  | x :: l => by
    have h1 := h x
    have h2 := full_small h l
    unfold fullF at h2 ⊢
    rw [List.flatMap_cons, List.length_append, List.length_cons]
    omega
theorem dcmp_len {q : PP} {D : Nat} (l : List Int) : (dcmpF q D l).length = (fullF q D l).length := by unfold dcmpF; rw [orderF_len]
theorem parse_err {s : ByteArray} {v : Value} (h : parseF s = .error v) : ∃ t x, v = .iface t x := by
  unfold parseF at h
  split at h
  · cases h; exact ⟨_, _, rfl⟩
  · split at h
    · cases h; exact ⟨_, _, rfl⟩
    · split at h
      · cases h; exact ⟨_, _, rfl⟩
      · cases h

end Go.Proofs.YtgidpknckbgmbaaGreatDoor

namespace Go.Proofs.YtgidpknckbgmbaaGreatDoor
open Go.RowKit Go.Sort

def TrueB (w : World) (e : Ending) (w' : World) : Prop := e = .returned (.bool true) ∧ Below w.heap.size w w'

set_option maxHeartbeats 2000000 in
set_option maxRecDepth 100000 in
theorem cuts_short (s : ByteArray) (l : List Int) (vl : Value) (w : World) (hgl : Gl w) (hs : s.size ≤ 281474976710656) (hv : RunesIn w vl l) (hsh : (∃ v, parseF s = .error v) ∨ 300 < l.length) :
    Calls Tryz.prog 4 #[.string s, vl] w (TrueB w) := by
  have hP := Lib.hid (parse_plain s w hs hgl)
  have HG := Lib.hid hgl
  obtain ⟨av, cv, rfl, c1, c2, c3⟩ := hv.len
  have hW := Lib.hid fun (w1 : World) (hb : Below w.heap.size w w1) => works_any w1 (hgl.below hb)
  clear hv c3 hgl
  cases hF : parseF s with
  | error v =>
    obtain ⟨t, x, rfl⟩ := parse_err hF
    have hp2 : Calls Tryz.prog 8 #[.string s] w fun e w' => e = .returned (.tuple #[.pointer none, .iface t x]) ∧ Below w.heap.size w w' := hP.out.mono fun e w' h => by
      unfold ParsePost at h
      rw [hF] at h
      exact ⟨h.2, h.1⟩
    have HP2 := Lib.hid hp2
    clear hP hp2 hF hsh
    go_enter Tryz.func4, Tryz.ntmps4
    go_wp2_with (first
      | (go_at_call 8; refine HP2.out.mono ?_; rintro e W0 ⟨rfl, hb0⟩)
      | (go_at_call 9; refine (hW.out _ hb0).mono ?_; rintro e W1 ⟨rfl, hb1⟩))
    go_ret
    exact ⟨rfl, hb0.trans (hb1.mono hb0.size)⟩
  | ok q =>
    have hbig : 300 < l.length := by
      rcases hsh with ⟨v, h⟩ | h
      · rw [hF] at h; cases h
      · exact h
    have hbz : (300 : Int) < l.length := by omega
    have hp2 : Calls Tryz.prog 8 #[.string s] w fun e w' => Below w.heap.size w w' ∧ ∃ bp, e = .returned (.tuple #[.pointer (some ⟨bp, 0, none⟩), .nilIface]) ∧ PropsAt w' bp q := hP.out.mono fun e w' h => by
      unfold ParsePost at h
      rw [hF] at h
      exact h
    have HP2 := Lib.hid hp2
    clear hP hp2 hF hsh
    go_enter Tryz.func4, Tryz.ntmps4
    go_wp2_with (first
      | (go_at_call 8; refine HP2.out.mono ?_; rintro e W0 ⟨hb0, bp, rfl, hq0⟩)
      | (go_at_call 9; refine (hW.out _ hb0).mono ?_; rintro e W1 ⟨rfl, hb1⟩))
    go_ret
    exact ⟨rfl, hb0.trans (hb1.mono hb0.size)⟩

set_option maxHeartbeats 4000000 in
set_option maxRecDepth 100000 in
theorem cuts_long (s : ByteArray) (l : List Int) (b off n cv : Nat) (w : World) (hgl : Gl w) (hs : s.size ≤ 281474976710656) (hn : l.length = n) (hv : RunesIn w (.slice (some ⟨b, off, none⟩) n cv) l) (h32 : ∀ x ∈ l, I32 x) (q : PP) (hF : parseF s = .ok q) (hsm : n ≤ 300) :
    Calls Tryz.prog 4 #[.string s, .slice (some ⟨b, off, none⟩) n cv] w (TrueB w) := by
  obtain ⟨D, hf⟩ := parse_fine hF
  have hp2 : Calls Tryz.prog 8 #[.string s] w fun e w' => Below w.heap.size w w' ∧ ∃ bp, e = .returned (.tuple #[.pointer (some ⟨bp, 0, none⟩), .nilIface]) ∧ PropsAt w' bp q := (parse_plain s w hs hgl).mono fun e w' h => by
    unfold ParsePost at h
    rw [hF] at h
    exact h
  have HP2 := Lib.hid hp2
  have hW := Lib.hid fun (w1 : World) (hb : Below w.heap.size w w1) => works_any w1 (hgl.below hb)
  obtain ⟨c1, c2⟩ : n ≤ cv ∧ cv ≤ 9223372036854775807 := by
    obtain ⟨av', cv', e, c1, c2, _⟩ := hv.len
    simp only [Value.slice.injEq] at e
    unfold maxLen at c2
    omega
  have HN := Lib.hid hn
  have HV := Lib.hid hv
  have H32 := Lib.hid h32
  have HF := Lib.hid hf
  have hnz : ¬ (300 : Int) < n := by omega
  clear hp2 hgl hv h32 hf hF hn
  go_enter Tryz.func4, Tryz.ntmps4
  go_upto_region 4 with (go_at_call 8; refine HP2.out.mono ?_; rintro e W0 ⟨hb0, bp, rfl, hq0⟩)
  have hd := Lib.hid (Decompose_in q D HF.out.1 bp W0 _ l hq0 (HV.out.below hb0) H32.out (Nat.lt_of_le_of_lt (full_small HF.out.2 l) (by have := HN.out; omega)))
  have HB0 := Lib.hid hb0
  have HQ0 := Lib.hid hq0
  clear hb0 hq0
  go_upto_region 6 with (go_at_call 10; refine hd.out.mono ?_; rintro e W1 ⟨vd, rfl, hod, hb1⟩)
  have HB1 := Lib.hid (HB0.out.trans (hb1.mono HB0.out.size))
  have HQ := Lib.hid (HQ0.out.below hb1)
  have HD := Lib.hid hod.runes
  clear hb1 hod hd
  go_loopw [8] (fun vi wr => ∃ i : Nat, i ≤ n + 1 ∧ vi = .int .i64 i ∧ Hid (Below W1.heap.size W1 wr)) (fun vi _ => n + 1 - (intOf vi).toNat)
  case atStart => exact ⟨0, by omega, rfl, Below.refl _ _⟩
  case round =>
    obtain ⟨i, hi, rfl, hbl⟩ := hrel
    have hvr := Lib.hid (HV.out.below (HB1.out.trans (hbl.out.mono HB1.out.size)))
    by_cases hin : i ≤ n
    · have hqr := HQ.out.below hbl.out
      obtain ⟨cb, hcu, hlaw⟩ : ∃ cb : Bool, Calls Tryz.prog 14 #[.pointer (some ⟨bp, 0, none⟩), .slice (some ⟨b, off, none⟩) n cv, .int .i64 i] wr (fun e w' => e = .returned (.bool cb) ∧ Below wr.heap.size wr w') ∧ ((cb = false ∧ 0 < i ∧ i < n) ∨ (cb = true ∧ (i = 0 ∨ i = l.length ∨ ∃ x, l[i]? = some x ∧ cutF q D x = true))) := by
        by_cases hmid : 0 < i ∧ i < n
        · have hil : i < l.length := by have := HN.out; omega
          have hc := Cut_in q D HF.out.1 bp wr _ l i l[i] hqr hvr.out (H32.out _ (List.getElem_mem hil)) hmid.1 (List.getElem?_eq_getElem hil) (by have := HF.out.2 l[i]; omega)
          refine ⟨_, hc, ?_⟩
          cases hcf : cutF q D l[i] with
          | false => exact .inl ⟨rfl, hmid⟩
          | true => exact .inr ⟨rfl, .inr (.inr ⟨_, List.getElem?_eq_getElem hil, hcf⟩)⟩
        · have hc := Cut_out bp wr _ l (i : Int) hvr.out (by have := HN.out; omega)
          have hor : i = 0 ∨ i = l.length := by have := HN.out; omega
          refine ⟨true, hc.mono fun e w' ⟨he, hw⟩ => ⟨by rw [he, decide_eq_true (by omega)], by subst hw; exact Below.refl _ _⟩, .inr ⟨rfl, ?_⟩⟩
          rcases hor with h | h
          · exact .inl h
          · exact .inr (.inl h)
      have hiz : (i : Int) ≤ n := by omega
      rcases hlaw with ⟨rfl, hi0, hin2⟩ | ⟨rfl, hlaw⟩
      · have HCu := Lib.hid hcu
        have e0 : ((i : Int) == 0) = false := beq_eq_false_iff_ne.2 (by omega)
        have e1 : ((i : Int) == n) = false := beq_eq_false_iff_ne.2 (by omega)
        clear hcu hqr
        go_wp2_with (go_at_call 14; refine HCu.out.mono ?_; rintro e W2 ⟨rfl, hb2⟩)
        have HB2 := Lib.hid (hbl.out.trans (hb2.mono hbl.out.size))
        go_roundw
        case rel => exact ⟨i + 1, by omega, by go_num, HB2⟩
        case measure => simp [intOf]; omega
      · have HCu := Lib.hid hcu
        have HLaw := Lib.hid hlaw
        clear hcu hqr hlaw
        obtain ⟨t1, t2, t3⟩ := HV.out.sub HN.out hin
        by_cases hic : i < cv
        · have TA := Lib.hid t1
          have TB := Lib.hid (t2 hic)
          have hic2 : i ≤ cv := by omega
          clear t1 t2 t3
          have hA := Lib.hid fun (w1 : World) (hb : Below W1.heap.size W1 w1) => Decompose_in q D HF.out.1 bp w1 _ _ (HQ.out.below hb) (TA.out.below (HB1.out.trans (hb.mono HB1.out.size))) (fun x hx => H32.out x (List.mem_of_mem_take hx)) (Nat.lt_of_le_of_lt (full_small HF.out.2 (l.take i)) (by have := HN.out; simp; omega))
          have hB := Lib.hid fun (w1 : World) (hb : Below W1.heap.size W1 w1) => Decompose_in q D HF.out.1 bp w1 _ _ (HQ.out.below hb) (TB.out.below (HB1.out.trans (hb.mono HB1.out.size))) (fun x hx => H32.out x (List.mem_of_mem_drop hx)) (Nat.lt_of_le_of_lt (full_small HF.out.2 (l.drop i)) (by have := HN.out; simp; omega))
          go_upto_region 12 with (first
            | (go_at_call 14; refine HCu.out.mono ?_; rintro e W2 ⟨rfl, hb2⟩; have hb12 := hbl.out.trans (hb2.mono hbl.out.size); have HB12 := Lib.hid hb12)
            | (go_at_call 10; refine (hA.out _ HB12.out).mono ?_; rintro e W3 ⟨va, rfl, hoa, hb3⟩))
          have HB13 := Lib.hid (HB12.out.trans (hb3.mono HB12.out.size))
          have HOa := Lib.hid hoa.runes
          clear hb12 hb2 hb3 hoa
          go_upto_region 13 with (go_at_call 10; refine (hB.out _ HB13.out).mono ?_; rintro e W4 ⟨vb, rfl, hob, hb4⟩)
          have hs4 := hb4.size
          have hj := Lib.hid (joined_any va vb _ _ W4 ((HOa.out.below hb4).more hs4) hob.runes (by
            have e1 := full_small HF.out.2 (l.take i)
            have e2 := full_small HF.out.2 (l.drop i)
            have := HN.out
            rw [dcmp_len, dcmp_len]
            simp at e1 e2
            omega))
          have HB14 := Lib.hid (HB13.out.trans (hb4.mono HB13.out.size))
          clear hb4 hob
          go_wp2_with fail
          refine hj.out.mono ?_
          rintro e W5 ⟨vj, rfl, hoj, hb5⟩
          have hb15 := HB14.out.trans (hb5.mono HB14.out.size)
          have hojr := hoj.runes
          rw [cut_law HLaw.out] at hojr
          have hsm := Lib.hid (Same_any vj vd (dcmpF q D l) (dcmpF q D l) _ _ W5 hojr (HD.out.below hb15))
          have HB15 := Lib.hid hb15
          clear hoj hb5 hb15 hojr
          go_wp2_with fail
          refine hsm.out.mono ?_
          rintro e W6 ⟨he6, hb6⟩
          simp only [decide_true] at he6
          subst he6
          have HB16 := Lib.hid (HB15.out.trans (hb6.mono HB15.out.size))
          clear hb6
          go_wp2
          go_roundw
          case rel => exact ⟨i + 1, by omega, by go_num, HB16⟩
          case measure => simp [intOf]; omega
        · have TA := Lib.hid t1
          have TB := Lib.hid (t3 hic)
          have hic2 : i ≤ cv := by omega
          have hic3 : cv ≤ i := by omega
          clear t1 t2 t3 hic
          have hA := Lib.hid fun (w1 : World) (hb : Below W1.heap.size W1 w1) => Decompose_in q D HF.out.1 bp w1 _ _ (HQ.out.below hb) (TA.out.below (HB1.out.trans (hb.mono HB1.out.size))) (fun x hx => H32.out x (List.mem_of_mem_take hx)) (Nat.lt_of_le_of_lt (full_small HF.out.2 (l.take i)) (by have := HN.out; simp; omega))
          have hB := Lib.hid fun (w1 : World) (hb : Below W1.heap.size W1 w1) => Decompose_in q D HF.out.1 bp w1 _ _ (HQ.out.below hb) (TB.out.below (HB1.out.trans (hb.mono HB1.out.size))) (fun x hx => H32.out x (List.mem_of_mem_drop hx)) (Nat.lt_of_le_of_lt (full_small HF.out.2 (l.drop i)) (by have := HN.out; simp; omega))
          go_upto_region 12 with (first
            | (go_at_call 14; refine HCu.out.mono ?_; rintro e W2 ⟨rfl, hb2⟩; have hb12 := hbl.out.trans (hb2.mono hbl.out.size); have HB12 := Lib.hid hb12)
            | (go_at_call 10; refine (hA.out _ HB12.out).mono ?_; rintro e W3 ⟨va, rfl, hoa, hb3⟩))
          have HB13 := Lib.hid (HB12.out.trans (hb3.mono HB12.out.size))
          have HOa := Lib.hid hoa.runes
          clear hb12 hb2 hb3 hoa
          go_upto_region 13 with (go_at_call 10; refine (hB.out _ HB13.out).mono ?_; rintro e W4 ⟨vb, rfl, hob, hb4⟩)
          have hs4 := hb4.size
          have hj := Lib.hid (joined_any va vb _ _ W4 ((HOa.out.below hb4).more hs4) hob.runes (by
            have e1 := full_small HF.out.2 (l.take i)
            have e2 := full_small HF.out.2 (l.drop i)
            have := HN.out
            rw [dcmp_len, dcmp_len]
            simp at e1 e2
            omega))
          have HB14 := Lib.hid (HB13.out.trans (hb4.mono HB13.out.size))
          clear hb4 hob
          go_wp2_with fail
          refine hj.out.mono ?_
          rintro e W5 ⟨vj, rfl, hoj, hb5⟩
          have hb15 := HB14.out.trans (hb5.mono HB14.out.size)
          have hojr := hoj.runes
          rw [cut_law HLaw.out] at hojr
          have hsm := Lib.hid (Same_any vj vd (dcmpF q D l) (dcmpF q D l) _ _ W5 hojr (HD.out.below hb15))
          have HB15 := Lib.hid hb15
          clear hoj hb5 hb15 hojr
          go_wp2_with fail
          refine hsm.out.mono ?_
          rintro e W6 ⟨he6, hb6⟩
          simp only [decide_true] at he6
          subst he6
          have HB16 := Lib.hid (HB15.out.trans (hb6.mono HB15.out.size))
          clear hb6
          go_wp2
          go_roundw
          case rel => exact ⟨i + 1, by omega, by go_num, HB16⟩
          case measure => simp [intOf]; omega
    · have hin2 : ¬ (i : Int) ≤ n := by omega
      have hb := Lib.hid (HB1.out.trans (hbl.out.mono HB1.out.size))
      go_wp2_with (go_at_call 9; refine (hW.out _ hb.out).mono ?_; rintro e W2 ⟨rfl, hb2⟩)
      go_ret
      exact ⟨rfl, hb.out.trans (hb2.mono hb.out.size)⟩

set_option maxHeartbeats 4000000 in
set_option maxRecDepth 100000 in
theorem cuts_nil (s : ByteArray) (w : World) (hgl : Gl w) (hs : s.size ≤ 281474976710656) (q : PP) (hF : parseF s = .ok q) :
    Calls Tryz.prog 4 #[.string s, .slice none 0 0] w (TrueB w) := by
  obtain ⟨D, hf⟩ := parse_fine hF
  have hp2 : Calls Tryz.prog 8 #[.string s] w fun e w' => Below w.heap.size w w' ∧ ∃ bp, e = .returned (.tuple #[.pointer (some ⟨bp, 0, none⟩), .nilIface]) ∧ PropsAt w' bp q := (parse_plain s w hs hgl).mono fun e w' h => by
    unfold ParsePost at h
    rw [hF] at h
    exact h
  have HP2 := Lib.hid hp2
  have hW := Lib.hid fun (w1 : World) (hb : Below w.heap.size w w1) => works_any w1 (hgl.below hb)
  have HF := Lib.hid hf
  have hdn : dcmpF q D [] = [] := by simp [dcmpF, fullF, orderF, ordG, ssort]
  have hdec := fun (bp : Nat) (w1 : World) (hq : PropsAt w1 bp q) => Decompose_any q D HF.out.1 bp w1 (.slice none 0 0) [] hq (.inl ⟨rfl, rfl⟩) (by simp) (by simp [fullF])
  rw [hdn] at hdec
  have HDec := Lib.hid hdec
  have hcut := fun (bp : Nat) (w1 : World) => Cut_out bp w1 (.slice none 0 0) [] 0 (.inl ⟨rfl, rfl⟩) (by omega)
  simp only [true_or, decide_true] at hcut
  have HCut := Lib.hid hcut
  clear hp2 hgl hf hF hdn hdec hcut
  go_enter Tryz.func4, Tryz.ntmps4
  go_upto_region 4 with (go_at_call 8; refine HP2.out.mono ?_; rintro e W0 ⟨hb0, bp, rfl, hq0⟩)
  have hd := Lib.hid (HDec.out bp W0 hq0)
  have HB0 := Lib.hid hb0
  have HQ0 := Lib.hid hq0
  clear hb0 hq0
  go_upto_region 6 with (go_at_call 10; refine hd.out.mono ?_; rintro e W1 ⟨vd, rfl, hod, hb1⟩)
  have HB1 := Lib.hid (HB0.out.trans (hb1.mono HB0.out.size))
  have HQ := Lib.hid (HQ0.out.below hb1)
  have HD := Lib.hid hod.runes
  clear hb1 hod hd
  go_loopw [8] (fun vi wr => ∃ i : Nat, i ≤ 1 ∧ vi = .int .i64 i ∧ Hid (Below W1.heap.size W1 wr)) (fun vi _ => 1 - (intOf vi).toNat)
  case atStart => exact ⟨0, by omega, rfl, Below.refl _ _⟩
  case round =>
    obtain ⟨i, hi, rfl, hbl⟩ := hrel
    by_cases h0 : i = 0
    · subst h0
      go_upto_region 12 with (first
        | (go_at_call 14; refine (HCut.out _ _).mono ?_; rintro e W2 ⟨rfl, rfl⟩)
        | (go_at_call 10; refine (HDec.out _ _ (HQ.out.below hbl.out)).mono ?_; rintro e W3 ⟨va, rfl, hoa, hb3⟩))
      have HB13 := Lib.hid (hbl.out.trans (hb3.mono hbl.out.size))
      have HOa := Lib.hid hoa.runes
      clear hb3 hoa
      go_upto_region 13 with (go_at_call 10; refine (HDec.out _ _ (HQ.out.below HB13.out)).mono ?_; rintro e W4 ⟨vb, rfl, hob, hb4⟩)
      have hs4 := hb4.size
      have hj := Lib.hid (joined_any va vb [] [] W4 ((HOa.out.below hb4).more hs4) hob.runes (by simp))
      have HB14 := Lib.hid (HB13.out.trans (hb4.mono HB13.out.size))
      clear hb4 hob
      go_wp2_with fail
      refine hj.out.mono ?_
      rintro e W5 ⟨vj, rfl, hoj, hb5⟩
      have hb15 := HB14.out.trans (hb5.mono HB14.out.size)
      have hsm := Lib.hid (Same_any vj vd [] [] _ _ W5 hoj.runes (HD.out.below hb15))
      have HB15 := Lib.hid hb15
      clear hoj hb5 hb15
      go_wp2_with fail
      refine hsm.out.mono ?_
      rintro e W6 ⟨he6, hb6⟩
      simp only [decide_true] at he6
      subst he6
      have HB16 := Lib.hid (HB15.out.trans (hb6.mono HB15.out.size))
      clear hb6
      go_wp2
      go_roundw
      case rel => exact ⟨1, by omega, by go_num, HB16⟩
      case measure => simp [intOf]
    · obtain rfl : i = 1 := by omega
      have hb := Lib.hid (HB1.out.trans (hbl.out.mono HB1.out.size))
      go_wp2_with (go_at_call 9; refine (hW.out _ hb.out).mono ?_; rintro e W2 ⟨rfl, hb2⟩)
      go_ret
      exact ⟨rfl, hb.out.trans (hb2.mono hb.out.size)⟩

/-- NormalCuts returns true, whatever the file and the row. -/
theorem cuts_any (s : ByteArray) (l : List Int) (vl : Value) (w : World) (hgl : Gl w) (hs : s.size ≤ 281474976710656) (hv : RunesIn w vl l) (h32 : ∀ x ∈ l, I32 x) :
    Calls Tryz.prog 4 #[.string s, vl] w (TrueB w) := by
  cases hF : parseF s with
  | error v => exact cuts_short s l vl w hgl hs hv (.inl ⟨v, hF⟩)
  | ok q =>
    by_cases hbig : 300 < l.length
    · exact cuts_short s l vl w hgl hs hv (.inr hbig)
    · have hv' := hv
      rcases hv with ⟨rfl, rfl⟩ | ⟨b, off, cap, rfl, _⟩
      · exact cuts_nil s w hgl hs q hF
      · exact cuts_long s l b off l.length cap w hgl hs rfl hv' h32 q hF (by omega)

end Go.Proofs.YtgidpknckbgmbaaGreatDoor
