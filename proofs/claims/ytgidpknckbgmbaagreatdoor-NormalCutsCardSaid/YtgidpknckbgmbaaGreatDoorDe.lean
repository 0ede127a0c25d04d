/- The point that two points make: the Go code answers what the plain function answers. normal.Decompose: the Go code does what the plain function does. -/
import Derived.Test.YtgidpknckbgmbaaGreatDoorDcp
import Derived.Deep.CutBlock
import Derived.Test.YtgidpknckbgmbaaGreatDoorOrd
set_option linter.unusedSimpArgs false
set_option linter.unusedVariables false
namespace Go.Proofs.YtgidpknckbgmbaaGreatDoor
open Go.RowKit

def CompPost (w : World) (o : Option Int) (e : Ending) (w' : World) : Prop := e = .returned (.tuple #[.int .i32 (o.getD 0), .bool o.isSome]) ∧ Below w.heap.size w w'
theorem val_bool {a b : Bool} (h : a = b) : Value.bool a = .bool b := by rw [h]
def lv1 (a b : Int) : Bool := decide (4352 ≤ a ∧ a < 4371 ∧ 4449 ≤ b ∧ b < 4470)
def lv2 (a b : Int) : Bool := isSyl a && decide ((a - 44032) % 28 = 0 ∧ 4519 < b ∧ b < 4547)
theorem comp_1 {q : PP} {a b : Int} (h : lv1 a b = true) : q.comp a b = some (44032 + ((a - 4352) * 21 + b - 4449) * 28) := by
  unfold PP.comp
  rw [if_pos (by simpa [lv1] using h)]
theorem comp_2 {q : PP} {a b : Int} (h1 : lv1 a b = false) (h : lv2 a b = true) : q.comp a b = some (a + b - 4519) := by
  unfold PP.comp
  rw [if_neg (by simpa [lv1] using h1), if_pos (by simpa [lv2] using h)]
theorem comp_3 {q : PP} {a b : Int} (h1 : lv1 a b = false) (h2 : lv2 a b = false) (h3 : q.cls a ≠ 0) : q.comp a b = none := by
  unfold PP.comp
  rw [if_neg (by simpa [lv1] using h1), if_neg (by simpa [lv2] using h2), if_pos h3]
theorem comp_4 {q : PP} {a b : Int} (h1 : lv1 a b = false) (h2 : lv2 a b = false) (h3 : q.cls a = 0) : q.comp a b = getKV q.pairs (a, b) := by
  unfold PP.comp
  rw [if_neg (by simpa [lv1] using h1), if_neg (by simpa [lv2] using h2), if_neg (by simpa using h3)]
theorem look_pair (ps : List ((Int × Int) × Int)) (x : Int × Int) : lookVal true (.int .i32 0) (getKV (ps.map fun p => (p.1, Value.int .i32 p.2)) x) = .tuple #[.int .i32 ((getKV ps x).getD 0), .bool (getKV ps x).isSome] := by
  induction ps with
  | nil => rfl
  | cons p ps ih =>
    obtain ⟨y, v⟩ := p
    simp only [List.map_cons, getKV]
    split
    · rfl
    · exact ih

set_option maxHeartbeats 1000000 in
set_option maxRecDepth 100000 in
theorem Compose2_any (q : PP) (bp : Nat) (a b : Int) (w : World) (ha : I32 a) (hb : I32 b) (hq : PropsAt w bp q) :
    Calls Tryz.prog 38 #[.pointer (some ⟨bp, 0, none⟩), .int .i32 a, .int .i32 b] w (CompPost w (q.comp a b)) := by
  obtain ⟨a1, a2⟩ := ha
  obtain ⟨b1, b2⟩ := hb
  have HQ := Lib.hid hq
  have HK := Lib.hid (keyP ⟨a1, a2⟩ ⟨b1, b2⟩)
  clear hq
  go_enter Tryz.func38, Tryz.ntmps38
  go_upto_region 1 with fail
  go_cut [10] from 11 (fun v wx => v = .bool (lv1 a b) ∧ wx = w)
  case first =>
    go_wp2
    all_goals
      go_meet
      exact ⟨val_bool (by unfold lv1; rw [Bool.eq_iff_iff]; simp; omega), rfl⟩
  case rest =>
  obtain ⟨rfl, rfl⟩ := hcut
  cases h1 : lv1 a b with
  | true =>
    have HC := Lib.hid (comp_1 (q := q) h1)
    have h1' := h1
    unfold lv1 at h1'
    simp at h1'
    clear h1
    go_wp2
    go_ret2
    exact ⟨by rw [HC.out]; simp <;> omega, Below.refl _ _⟩
  | false =>
    have HH1 := Lib.hid h1
    clear h1
    go_upto_region 3 with fail
    go_cut [33] from 34 (fun v wx => v = .bool (lv2 a b) ∧ wx = wc)
    case first =>
      cases hs : isSyl a with
      | true =>
        obtain ⟨r1, r2⟩ := sylD_nt hs
        have HS := Lib.hid hs
        have hsy := syllable_any a
        rw [hs] at hsy
        have HSy := Lib.hid hsy
        clear hs hsy
        go_wp2_with (go_at_call 51; refine (HSy.out _).mono ?_; rintro e w' ⟨rfl, rfl⟩)
        all_goals
          go_meet
          exact ⟨val_bool (by unfold lv2; rw [HS.out, Bool.eq_iff_iff]; simp; omega), rfl⟩
      | false =>
        have HS := Lib.hid hs
        have hsy := syllable_any a
        rw [hs] at hsy
        have HSy := Lib.hid hsy
        clear hs hsy
        go_wp2_with (go_at_call 51; refine (HSy.out _).mono ?_; rintro e w' ⟨rfl, rfl⟩)
        all_goals
          go_meet
          exact ⟨val_bool (by unfold lv2; rw [HS.out]; rfl), rfl⟩
    case rest =>
    obtain ⟨rfl, hwc⟩ := hcut
    subst hwc
    cases h2 : lv2 a b with
    | true =>
      have HC := Lib.hid (comp_2 (q := q) HH1.out h2)
      have h2' := h2
      unfold lv2 at h2'
      simp at h2'
      obtain ⟨hs, r3, r4, r5⟩ := h2'
      obtain ⟨r1, r2⟩ := sylD_nt hs
      clear h2 hs r3
      go_wp2
      go_ret2
      exact ⟨by rw [HC.out]; simp <;> omega, Below.refl _ _⟩
    | false =>
      have HH2 := Lib.hid h2
      clear h2
      have hcl := Lib.hid (Class_any bp a q wc HQ.out)
      by_cases h3 : q.cls a = 0
      · have HC := Lib.hid (comp_4 HH1.out HH2.out h3)
        have hb0 : (q.cls a != 0) = false := by simp [h3]
        clear h3
        have hlp := Lib.hid (look_pair q.pairs (a, b))
        go_upto_region 7 with (go_at_call 37; refine hcl.out.mono ?_; rintro e w1 ⟨rfl, hb⟩)
        obtain ⟨⟨vc, vk, bf, bd, bt, k1, k2, k3, k4, k5, k6⟩, n1, n2⟩ := HQ.out.below hb
        obtain ⟨c0, c1, c2, c3, c4⟩ := blk5 k1
        have hk6 := Lib.hid k6
        have HB := Lib.hid hb
        clear k1 k2 k3 k4 k5 k6 c0 c1 c2 c3 hb hb0
        go_wp2_with (at_lookup; refine wpList_lookup_is _ rfl _ _ 51 true rfl 98 21 kp Tryz.underlying51 _ (zeroRune _) encPair injP bt _ rfl hk6.out (a, b) _ rfl HK.out ?_; rw [hlp.out])
        go_ret2
        exact ⟨by rw [HC.out]; rfl, HB.out⟩
      · have HC := Lib.hid (comp_3 HH1.out HH2.out h3)
        have hb0 : (q.cls a != 0) = true := by simp [h3]
        clear h3
        go_wp2_with (go_at_call 37; refine hcl.out.mono ?_; rintro e w' ⟨rfl, hb⟩)
        go_ret2
        exact ⟨by rw [HC.out]; rfl, hb⟩

end Go.Proofs.YtgidpknckbgmbaaGreatDoor

namespace Go.Proofs.YtgidpknckbgmbaaGreatDoor
open Go.RowKit Go.Sort

/-- What is asked of properties: decompositions end within D, points and classes are in range. -/
structure Fine (q : PP) (D : Nat) : Prop where
  d32 : Dec32 q
  d8 : Dec8 q
  cls : Cls8 q
  fin : ∀ r, wfin q D r = true
  p32 : ∀ x ∈ q.pairs, I32 x.2
def fullF (q : PP) (D : Nat) (l : List Int) : List Int := l.flatMap (wholeF q D)
def dcmpF (q : PP) (D : Nat) (l : List Int) : List Int := orderF q.cls (fullF q D l)
/-- A slice of the call's own with these points; what was is as it was. -/
def OwnPost (w : World) (l : List Int) (e : Ending) (w' : World) : Prop := ∃ v', e = .returned v' ∧ OwnRunes w.heap.size w' v' l ∧ Below w.heap.size w w'

/-- The slice value reads as the numbers l, wherever its cells lie. -/
def RunesIn (w : World) (v : Value) (l : List Int) : Prop := (v = .slice none 0 0 ∧ l = []) ∨ ∃ b off cap, v = .slice (some ⟨b, off, none⟩) l.length cap ∧ l.length ≤ cap ∧ cap ≤ maxLen ∧ ∀ j x, l[j]? = some x → w.cell? ⟨b, off + j, none⟩ = some (.int .i32 x)
theorem RunesAt.in_ {n₀ : Nat} {w : World} {v : Value} {l : List Int} (h : RunesAt n₀ w v l) : RunesIn w v l := by
  rcases h.cases with h | ⟨b, off, cap, h1, h2, h3, _, h5⟩
  · exact .inl h
  · exact .inr ⟨b, off, cap, h1, h2, h3, h5⟩
theorem RunesIn.below {w w' : World} {v : Value} {l : List Int} (h : RunesIn w v l) (hb : Below w.heap.size w w') : RunesIn w' v l := by
  rcases h with h | ⟨b, off, cap, h1, h2, h3, h5⟩
  · exact .inl h
  · exact .inr ⟨b, off, cap, h1, h2, h3, fun j x hj => (hb.cell (World.block_lt_of_cell? _ _ (h5 j x hj))).trans (h5 j x hj)⟩
theorem RunesIn.len {w : World} {v : Value} {l : List Int} (h : RunesIn w v l) : ∃ a cap, v = .slice a l.length cap ∧ l.length ≤ cap ∧ cap ≤ maxLen ∧ (∀ j x, l[j]? = some x → ∃ b off, a = some ⟨b, off, none⟩ ∧ w.cell? ⟨b, off + j, none⟩ = some (.int .i32 x)) := by
  rcases h with ⟨rfl, rfl⟩ | ⟨b, off, cap, rfl, h1, h2, h4⟩
  · exact ⟨none, 0, rfl, by simp, by unfold maxLen; omega, by simp⟩
  · exact ⟨_, cap, rfl, h1, h2, fun j x hj => ⟨b, off, rfl, h4 j x hj⟩⟩

theorem take_len (q : PP) (D : Nat) (l : List Int) (j : Nat) : (fullF q D (l.take j)).length ≤ (fullF q D l).length := by
  conv => rhs; rw [← List.take_append_drop j l]
  unfold fullF
  rw [List.flatMap_append, List.length_append]
  omega
theorem full_next (q : PP) (D : Nat) (l : List Int) (j : Nat) (hj : j < l.length) : fullF q D (l.take j) ++ wholeF q D l[j] = fullF q D (l.take (j + 1)) := by
  unfold fullF
  rw [List.take_succ_eq_append_getElem hj]
  simp only [List.flatMap_append, List.flatMap_cons, List.flatMap_nil, List.append_nil]

set_option maxHeartbeats 1000000 in
theorem Decompose_in (q : PP) (D : Nat) (hf : Fine q D) (bp : Nat) (w : World) (v : Value) (l : List Int) (h0 : PropsAt w bp q) (hv : RunesIn w v l) (h32 : ∀ x ∈ l, I32 x) (hl : (fullF q D l).length < 1099511627776) :
    Calls Tryz.prog 10 #[.pointer (some ⟨bp, 0, none⟩), v] w (OwnPost w (dcmpF q D l)) := by
  have hlast := fun (w1 : World) (u : Value) (hw : Below w.heap.size w w1) (ho : OwnRunes w.heap.size w1 u (fullF q D l)) => order_any q hf.cls bp w h0 w.heap.size w1 u (fullF q D l) hw (Nat.le_refl _) ho (Nat.le_of_lt hl)
  have HLast := Lib.hid hlast
  rcases hv with ⟨rfl, rfl⟩ | ⟨b, off, cap, rfl, hcap, hm, hx⟩
  · clear hlast h0
    go_enter Tryz.func10, Tryz.ntmps10
    go_wp2
    go_loopw [5, 10] (fun vo vi wr => vo = .slice none 0 0 ∧ vi = .int .i64 0 ∧ wr = w) (fun _ _ _ => 0)
    case atStart => exact ⟨rfl, rfl, rfl⟩
    case round =>
      obtain ⟨rfl, rfl, rfl⟩ := hrel
      go_wp2_with (go_at_call 36; refine (HLast.out wr _ (Below.refl _ _) (OwnRunes.nil _ _)).mono ?_; rintro e w1 ⟨rfl, ho, hg⟩)
      go_ret
      exact ⟨_, rfl, ho, grown_blk hg (Nat.le_refl _) (fun g e => by cases e)⟩
  · have hmm : cap ≤ 9223372036854775807 := by unfold maxLen at hm; omega
    have HX := Lib.hid hx
    have H0 := Lib.hid h0
    have H32 := Lib.hid h32
    have HF := Lib.hid hf
    have HL := Lib.hid hl
    obtain ⟨n, hn⟩ : ∃ n, l.length = n := ⟨_, rfl⟩
    rw [hn] at hcap ⊢
    have HN := Lib.hid hn
    clear hlast h0 hx h32 hf hl hn hm
    go_enter Tryz.func10, Tryz.ntmps10
    go_wp2
    go_loopw [5, 10] (fun vo vi wr => ∃ j : Nat, j ≤ n ∧ vi = .int .i64 j ∧ Hid (OwnRunes w.heap.size wr vo (fullF q D (l.take j))) ∧ Hid (Below w.heap.size w wr)) (fun _ vi _ => n - (intOf vi).toNat)
    case atStart => exact ⟨0, by omega, rfl, OwnRunes.nil _ _, Below.refl _ _⟩
    case round =>
      obtain ⟨j, hj, rfl, hor, hbl⟩ := hrel
      by_cases hjn : j < n
      · have hjl : j < l.length := by have := HN.out; omega
        obtain ⟨x, hx⟩ : ∃ x, l[j] = x := ⟨_, rfl⟩
        have hc0 := HX.out j x (by rw [List.getElem?_eq_getElem hjl, hx])
        have hc : wr.cell? ⟨b, off + j, none⟩ = some (.int .i32 x) := (hbl.out.cell (p := ⟨b, off + j, none⟩) (World.block_lt_of_cell? _ _ hc0)).trans hc0
        clear hc0
        have hnx := full_next q D l j hjl
        rw [hx] at hnx
        have hle : (fullF q D (l.take j)).length + (wholeF q D x).length < 1099511627776 := by
          have e1 := congrArg List.length hnx
          have e2 := take_len q D l (j + 1)
          have := HL.out
          rw [List.length_append] at e1
          omega
        have hwh := whole_any q HF.out.d32 HF.out.d8 bp w H0.out D x w.heap.size wr _ _ (HF.out.fin x) (H32.out x (by rw [← hx]; exact List.getElem_mem hjl)) hbl.out (Nat.le_refl _) hbl.out.size hor.out hle
        rw [hnx] at hwh
        have HWh := Lib.hid hwh
        clear hnx hle hwh hx hjl
        go_wp2_with (go_at_call 35; refine HWh.out.mono ?_; rintro e w2 ⟨v3, rfl, ho3, hg3, hs3⟩)
        go_roundw
        case rel => exact ⟨j + 1, by omega, by go_num, ho3, hbl.out.trans (grown_blk hg3 hbl.out.size (fun g e => (World.ownsRow.lt hor.out g e).1))⟩
        case measure => simp [intOf]; omega
      · have hfin := hor.out
        rw [List.take_of_length_le (by have := HN.out; omega)] at hfin
        have HO := Lib.hid (HLast.out wr _ hbl.out hfin)
        have HFi := Lib.hid hfin
        clear hfin hor
        go_wp2_with (go_at_call 36; refine HO.out.mono ?_; rintro e w1 ⟨rfl, ho, hg⟩)
        go_ret
        exact ⟨_, rfl, ho, hbl.out.trans (grown_blk hg hbl.out.size (fun g e => (World.ownsRow.lt HFi.out g e).1))⟩

theorem Decompose_any (q : PP) (D : Nat) (hf : Fine q D) (bp : Nat) (w : World) (v : Value) (l : List Int) (h0 : PropsAt w bp q) (hv : RunesAt w.heap.size w v l) (h32 : ∀ x ∈ l, I32 x) (hl : (fullF q D l).length < 1099511627776) :
    Calls Tryz.prog 10 #[.pointer (some ⟨bp, 0, none⟩), v] w (OwnPost w (dcmpF q D l)) := Decompose_in q D hf bp w v l h0 hv.in_ h32 hl

end Go.Proofs.YtgidpknckbgmbaaGreatDoor
