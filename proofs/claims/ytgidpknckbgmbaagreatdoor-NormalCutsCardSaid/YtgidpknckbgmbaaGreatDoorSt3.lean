/- Sorting points stably: one number put into a sorted row, from either end. -/
import Derived.Test.YtgidpknckbgmbaaGreatDoorSt2
set_option linter.unusedSimpArgs false
set_option linter.unusedVariables false
namespace Go.Proofs.YtgidpknckbgmbaaGreatDoor
open Go.RowKit Go.Sort

theorem Srt.get {k : Int → Int} {X : List Int} (h : Srt k X) {u v : Nat} {y z : Int} (huv : u ≤ v) (hu : X[u]? = some y) (hv : X[v]? = some z) : k y ≤ k z := by
  obtain ⟨h1, rfl⟩ := List.getElem?_eq_some_iff.1 hu
  obtain ⟨h2, rfl⟩ := List.getElem?_eq_some_iff.1 hv
  rcases Nat.lt_or_eq_of_le huv with h3 | h3
  · exact List.pairwise_iff_getElem.1 h u v h1 h2 h3
  · subst h3; omega
theorem put_left {k : Int → Int} {P Q : List Int} {x : Int} (hs : Srt k (P ++ Q)) (h1 : ∀ y ∈ P, k y < k x) (h2 : ∀ y ∈ Q, k x ≤ k y) : P ++ x :: Q = ssort k (x :: (P ++ Q)) := by
  refine ssort_is ?_ ?_
  · refine hs.left.app (b := x :: Q) (List.pairwise_cons.2 ⟨h2, hs.right⟩) ?_
    intro y hy z hz
    rcases List.mem_cons.1 hz with rfl | hz
    · have := h1 y hy; omega
    · exact hs.le y hy z hz
  · have : StEq k ([x] ++ P) (P ++ [x]) := StEq.turn fun y hy z hz => by simp at hy; subst hy; have := h1 z hz; omega
    simpa using this.app (StEq.refl Q)
theorem put_right {k : Int → Int} {P Q : List Int} {x : Int} (hs : Srt k (P ++ Q)) (h1 : ∀ y ∈ P, k y ≤ k x) (h2 : ∀ y ∈ Q, k x < k y) : P ++ x :: Q = ssort k ((P ++ Q) ++ [x]) := by
  have := put_between hs h1 h2
  exact ssort_is this.1 this.2
/-- A row cut at p. -/
theorem cut_lt {X : List Int} {p : Nat} {R : Int → Prop} (h : ∀ (u : Nat) y, u < p → X[u]? = some y → R y) : ∀ y ∈ X.take p, R y := fun y hy => by
  obtain ⟨u, hu⟩ := List.getElem?_of_mem hy
  rw [List.getElem?_take] at hu
  split at hu
  · exact h u y (by assumption) hu
  · cases hu
theorem cut_ge {X : List Int} {p : Nat} {R : Int → Prop} (h : ∀ (u : Nat) y, p ≤ u → X[u]? = some y → R y) : ∀ y ∈ X.drop p, R y := fun y hy => by
  obtain ⟨u, hu⟩ := List.getElem?_of_mem hy
  rw [List.getElem?_drop] at hu
  exact h (p + u) y (by omega) hu
theorem at_in {blk S : Nat} {A X B : List Int} {w : World} (h : RW blk S (A ++ (X ++ B)).toArray w) {p i : Nat} (hp : p < X.length) (hi : A.length + p = i) : w.cell? ⟨blk, i, none⟩ = some (.int .i32 X[p]) := by
  have e : A ++ (X ++ B) = (A ++ X.take p) ++ X[p] :: (X.drop (p + 1) ++ B) := by
    rw [List.append_assoc]
    congr 1
    rw [← List.cons_append, ← List.append_assoc, ← List.drop_eq_getElem_cons hp, List.take_append_drop]
  rw [e] at h
  exact h.at (by simp; omega)

set_option maxHeartbeats 1000000 in
set_option maxRecDepth 100000 in
theorem symL_any (W0 : World) (k : Int → Int) (pb blk S off n cap a m b : Nat) (x : Int) (A X B : List Int) (w : World) (hC : CmpOK W0 blk pb k) (hg : W0.grownBy w (some blk)) (h : RW blk S (A ++ (x :: (X ++ B))).toArray w)
    (hs : Srt k X) (hA : A.length = off + a) (hm : m = a + 1) (hX : a + 1 + X.length = b) (hX0 : 0 < X.length) (hb : b ≤ n) (hbig : off + n ≤ 4611686018427387904) :
    Calls Tryz.prog 109 #[.slice (some ⟨blk, off, none⟩) n cap, .int .i64 a, .int .i64 m, .int .i64 b, cmpV pb] w (StPost W0 blk S (A ++ (ssort k (x :: X) ++ B))) := by
  unfold cmpV
  have mixed : Tryz.prog.follows .mixedOrders = true := by kernel_rfl
  have H := Lib.hid h
  have HG := Lib.hid hg
  have HC := Lib.hid hC
  have HA := Lib.hid hA
  have HS := Lib.hid hs
  have HM := Lib.hid hm
  have hXb : a + 1 + X.length ≤ b ∧ b ≤ a + 1 + X.length := by omega
  have hm1 : ((m : Int) - a == 1) = true := beq_iff_eq.2 (by omega)
  have hm2 : a < m ∧ m ≤ a + 1 := by omega
  clear h hg hC hA hs hm hX
  go_enter Tryz.func109, Tryz.ntmps109
  go_wp2
  go_loopw [10, 11] (fun vi vj wr => ∃ i j : Nat, m ≤ i ∧ i ≤ j ∧ j ≤ b ∧ vi = .int .i64 i ∧ vj = .int .i64 j ∧ Hid (∀ (u : Nat) y, u < i - (a + 1) → X[u]? = some y → k y < k x) ∧ Hid (∀ (u : Nat) y, j - (a + 1) ≤ u → X[u]? = some y → k x ≤ k y) ∧ Hid (RW blk S (A ++ (x :: (X ++ B))).toArray wr) ∧ Hid (W0.grownBy wr (some blk)))
    (fun vi vj _ => (intOf vj - intOf vi).toNat)
  case atStart => exact ⟨m, b, by omega, by omega, by omega, rfl, rfl, fun u y h => by omega, fun u y h1 h2 => by have := (List.getElem?_eq_some_iff.1 h2).1; omega, H, HG⟩
  case round =>
    obtain ⟨i, j, h1, h2, h3, rfl, rfl, hL, hU, hR, hg⟩ := hrel
    clear H HG
    by_cases hij : i < j
    · obtain ⟨h, hh, hh1, hh2⟩ : ∃ h : Nat, ((i : Int) + j) / 2 = h ∧ i ≤ h ∧ h < j := ⟨(i + j) / 2, by omega, by omega, by omega⟩
      have hp : h - (a + 1) < X.length := by omega
      obtain ⟨y, hy⟩ : ∃ y, X[h - (a + 1)]? = some y := ⟨_, List.getElem?_eq_getElem hp⟩
      have hyv : X[h - (a + 1)] = y := by rw [List.getElem?_eq_getElem hp] at hy; exact Option.some.inj hy
      have HY := Lib.hid hy
      have c1 : ∀ q : BelowBy wr, q.W.cell? ⟨blk, off + h, none⟩ = some (.int .i32 y) := fun q => by
        have := hR.out.below q.h
        rw [show A ++ (x :: (X ++ B)) = (A ++ [x]) ++ (X ++ B) by simp] at this
        have := at_in this (p := h - (a + 1)) (i := off + h) hp (by have := HA.out; simp; omega)
        rwa [hyv] at this
      have c2 : ∀ q : BelowBy wr, q.W.cell? ⟨blk, off + a, none⟩ = some (.int .i32 x) := fun q => (hR.out.below q.h).at HA.out
      have hcmp := Lib.hid fun q : BelowBy wr => HC.out q.W (grown_below hg.out q.h) y x
      have hn1 : h < n := by omega
      have hn2 : a < n := by omega
      clear hy hyv
      by_cases hlt : k y - k x < 0
      · have hL' : ∀ (u : Nat) z, u < h + 1 - (a + 1) → X[u]? = some z → k z < k x := fun u z hu hz => by
          have := HS.out.get (show u ≤ h - (a + 1) by omega) hz HY.out
          omega
        have HL' := Lib.hid hL'
        clear hL' hL
        go_wp2_with fail
        refine wp_region_quiet_below mixed (by kernel_rfl) ?_
        repeat (quiet_step ((go_at_call 58; exact below_by (hcmp.out _))))
        refine wpQuiet_nil ?_
        intro w3 hw'
        obtain ⟨⟨w4, hw3⟩, hw''⟩ := hw'
        change w3 = w4 at hw''
        subst hw''
        have hR3 := Lib.hid (hR.out.below hw3)
        have hg3 := Lib.hid (grown_below hg.out hw3)
        clear c1 c2 hcmp hR hg hw3 hh
        go_wp2
        go_roundw
        case rel => exact ⟨h + 1, j, by omega, by omega, by omega, by go_num, rfl, HL', hU, hR3, hg3⟩
        case measure => simp [intOf]; omega
      · have hU' : ∀ (u : Nat) z, h - (a + 1) ≤ u → X[u]? = some z → k x ≤ k z := fun u z hu hz => by
          have := HS.out.get hu HY.out hz
          omega
        have HU' := Lib.hid hU'
        clear hU' hU
        go_wp2_with fail
        refine wp_region_quiet_below mixed (by kernel_rfl) ?_
        repeat (quiet_step ((go_at_call 58; exact below_by (hcmp.out _))))
        refine wpQuiet_nil ?_
        intro w3 hw'
        obtain ⟨⟨w4, hw3⟩, hw''⟩ := hw'
        change w3 = w4 at hw''
        subst hw''
        have hR3 := Lib.hid (hR.out.below hw3)
        have hg3 := Lib.hid (grown_below hg.out hw3)
        clear c1 c2 hcmp hR hg hw3 hh
        go_wp2
        go_roundw
        case rel => exact ⟨i, h, by omega, by omega, by omega, rfl, rfl, hL, HU', hR3, hg3⟩
        case measure => simp [intOf]; omega
    · obtain rfl : i = j := by omega
      obtain ⟨p, rfl⟩ : ∃ p, i = a + 1 + p := ⟨i - (a + 1), by omega⟩
      have hfin : X.take p ++ x :: X.drop p = ssort k (x :: X) := by
        have := put_left (k := k) (P := X.take p) (Q := X.drop p) (x := x) (by rw [List.take_append_drop]; exact HS.out) (cut_lt fun u y hu => hL.out u y (by omega)) (cut_ge fun u y hu => hU.out u y (by omega))
        rwa [List.take_append_drop] at this
      have HF := Lib.hid hfin
      have hpX : p ≤ X.length := by omega
      clear hfin hL hU
      go_wp2
      go_loopw [13] (fun v w2 => ∃ t : Nat, t ≤ p ∧ v = .int .i64 ((a : Int) + t) ∧ Hid (RW blk S (A ++ (X.take t ++ x :: (X.drop t ++ B))).toArray w2) ∧ Hid (W0.grownBy w2 (some blk))) (fun v _ => (a + p) - (intOf v).toNat)
      case atStart => exact ⟨0, by omega, by go_num, by show RW _ _ _ _; simpa using hR.out, hg⟩
      case round =>
        obtain ⟨t, ht, rfl, hR2, hg2⟩ := hrel
        clear hR hg
        by_cases htp : t < p
        · have htx : t < X.length := by omega
          obtain ⟨y, hy⟩ : ∃ y, X[t] = y := ⟨_, rfl⟩
          have hR3 : RW blk S ((A ++ X.take t) ++ x :: ([] ++ y :: (X.drop (t + 1) ++ B))).toArray wr := by
            have := hR2.out
            rw [List.drop_eq_getElem_cons htx, hy] at this
            simpa using this
          have e1 : (A ++ X.take t).length = off + (a + t) := by have := HA.out; simp; omega
          have e2 : off + (a + t) + 1 + ([] : List Int).length = off + (a + t + 1) := by simp; omega
          have c1 : wr.cell? ⟨blk, off + (a + t), none⟩ = some (.int .i32 x) := hR3.at e1
          have c2 : wr.cell? ⟨blk, off + (a + t + 1), none⟩ = some (.int .i32 y) := by
            have h3 := hR3
            rw [List.nil_append, show (A ++ X.take t) ++ x :: y :: (X.drop (t + 1) ++ B) = ((A ++ X.take t) ++ [x]) ++ y :: (X.drop (t + 1) ++ B) by simp] at h3
            exact h3.at (by rw [List.length_append, e1]; simp; omega)
          have fr := fun i => hR3.frozen i
          have hR4 := Lib.hid (RW.drew (hR3.exch e1 e2))
          have hNx : Hid ((A ++ X.take t) ++ y :: ([] ++ x :: (X.drop (t + 1) ++ B)) = A ++ (X.take (t + 1) ++ x :: (X.drop (t + 1) ++ B))) := by
            show _ = _
            rw [List.take_succ_eq_append_getElem htx, hy]
            simp only [List.append_assoc, List.cons_append, List.nil_append]
          have n1 : a + t < n := by omega
          have n2 : a + t + 1 < n := by omega
          have w1 : IntKind.i64.wrap ((a : Int) + t) = ((a + t : Nat) : Int) := by rw [IntKind.wrap_i64]; omega
          have w2 : IntKind.i64.wrap ((a : Int) + t + 1) = ((a + t + 1 : Nat) : Int) := by rw [IntKind.wrap_i64]; omega
          have w3 : ((a : Int) + t) = ((a + t : Nat) : Int) := by omega
          have hcond : (a : Int) + t < a + 1 + p - 1 := by omega
          have W3 := Lib.hid w3
          clear hR2 hR3 e1 e2 hy w1 w2 w3
          have hwq : (((a + t : Nat) : Int)) = (a : Int) + t := by omega
          go_wp2_with fail
          go_region
          have hg4 : wr.grownBy _ (some blk) := swp_grown wr blk (off + (a + t)) (off + (a + t + 1)) (.int .i32 y) (.int .i32 x)
          go_wp2
          go_roundw
          case rel => exact ⟨t + 1, by omega, by go_num, by show RW _ _ _ _; rw [← hNx.out]; exact hR4.out, hg2.out.trans hg4⟩
          case measure => simp [intOf]; omega
        · obtain rfl : t = p := by omega
          have hR' : RW blk S (A ++ (ssort k (x :: X) ++ B)).toArray wr := by
            have := hR2.out
            rw [← HF.out]; simpa using this
          have HR' := Lib.hid hR'
          clear hR' hR2
          go_wp2
          go_end0
          exact ⟨rfl, HR'.out, hg2.out⟩

set_option maxHeartbeats 1000000 in
set_option maxRecDepth 100000 in
theorem symR_any (W0 : World) (k : Int → Int) (pb blk S off n cap a m b : Nat) (x : Int) (A X B : List Int) (w : World) (hC : CmpOK W0 blk pb k) (hg : W0.grownBy w (some blk)) (h : RW blk S (A ++ (X ++ x :: B)).toArray w)
    (hs : Srt k X) (hA : A.length = off + a) (hm : a + X.length = m) (hmb : b = m + 1) (hX0 : 1 < X.length) (hb : b ≤ n) (hbig : off + n ≤ 4611686018427387904) :
    Calls Tryz.prog 109 #[.slice (some ⟨blk, off, none⟩) n cap, .int .i64 a, .int .i64 m, .int .i64 b, cmpV pb] w (StPost W0 blk S (A ++ (ssort k (X ++ [x]) ++ B))) := by
  unfold cmpV
  have mixed : Tryz.prog.follows .mixedOrders = true := by kernel_rfl
  have H := Lib.hid h
  have HG := Lib.hid hg
  have HC := Lib.hid hC
  have HA := Lib.hid hA
  have HS := Lib.hid hs
  have hm1 : ((m : Int) - a == 1) = false := beq_eq_false_iff_ne.2 (by omega)
  have hm2 : ((b : Int) - m == 1) = true := beq_iff_eq.2 (by omega)
  have hm3 : m < b ∧ b ≤ m + 1 ∧ a + X.length ≤ m ∧ m ≤ a + X.length := by omega
  clear h hg hC hA hs hm hmb
  go_enter Tryz.func109, Tryz.ntmps109
  go_wp2
  go_loopw [14, 15] (fun vi vj wr => ∃ i j : Nat, a ≤ i ∧ i ≤ j ∧ j ≤ m ∧ vi = .int .i64 i ∧ vj = .int .i64 j ∧ Hid (∀ (u : Nat) y, u < i - a → X[u]? = some y → k y ≤ k x) ∧ Hid (∀ (u : Nat) y, j - a ≤ u → X[u]? = some y → k x < k y) ∧ Hid (RW blk S (A ++ (X ++ x :: B)).toArray wr) ∧ Hid (W0.grownBy wr (some blk)))
    (fun vi vj _ => (intOf vj - intOf vi).toNat)
  case atStart => exact ⟨a, m, by omega, by omega, by omega, rfl, rfl, fun u y h => by omega, fun u y h1 h2 => by have := (List.getElem?_eq_some_iff.1 h2).1; omega, H, HG⟩
  case round =>
    obtain ⟨i, j, h1, h2, h3, rfl, rfl, hL, hU, hR, hg⟩ := hrel
    clear H HG
    by_cases hij : i < j
    · obtain ⟨h, hh, hh1, hh2⟩ : ∃ h : Nat, ((i : Int) + j) / 2 = h ∧ i ≤ h ∧ h < j := ⟨(i + j) / 2, by omega, by omega, by omega⟩
      have hp : h - a < X.length := by omega
      obtain ⟨y, hy⟩ : ∃ y, X[h - a]? = some y := ⟨_, List.getElem?_eq_getElem hp⟩
      have hyv : X[h - a] = y := by rw [List.getElem?_eq_getElem hp] at hy; exact Option.some.inj hy
      have HY := Lib.hid hy
      have c1 : ∀ q : BelowBy wr, q.W.cell? ⟨blk, off + h, none⟩ = some (.int .i32 y) := fun q => by
        have := at_in (hR.out.below q.h) (p := h - a) (i := off + h) hp (by have := HA.out; omega)
        rwa [hyv] at this
      have c2 : ∀ q : BelowBy wr, q.W.cell? ⟨blk, off + m, none⟩ = some (.int .i32 x) := fun q => by
        have := hR.out.below q.h
        rw [← List.append_assoc] at this
        exact this.at (by have := HA.out; simp; omega)
      have hcmp := Lib.hid fun q : BelowBy wr => HC.out q.W (grown_below hg.out q.h) x y
      have hn1 : h < n := by omega
      have hn2 : m < n := by omega
      clear hy hyv
      by_cases hlt : k x - k y < 0
      · have hU' : ∀ (u : Nat) z, h - a ≤ u → X[u]? = some z → k x < k z := fun u z hu hz => by
          have := HS.out.get hu HY.out hz
          omega
        have HU' := Lib.hid hU'
        have hd : decide (k x - k y < 0) = true := decide_eq_true hlt
        clear hU' hU
        go_wp2_with fail
        refine wp_region_quiet_below mixed (by kernel_rfl) ?_
        repeat (quiet_step ((go_at_call 58; exact below_by (hcmp.out _))))
        refine wpQuiet_nil ?_
        intro w3 hw'
        obtain ⟨⟨w4, hw3⟩, hw''⟩ := hw'
        change w3 = w4 at hw''
        subst hw''
        have hR3 := Lib.hid (hR.out.below hw3)
        have hg3 := Lib.hid (grown_below hg.out hw3)
        clear c1 c2 hcmp hR hg hw3 hh
        go_wp2
        go_roundw
        case rel => exact ⟨i, h, by omega, by omega, by omega, rfl, rfl, hL, HU', hR3, hg3⟩
        case measure => simp [intOf]; omega
      · have hL' : ∀ (u : Nat) z, u < h + 1 - a → X[u]? = some z → k z ≤ k x := fun u z hu hz => by
          have := HS.out.get (show u ≤ h - a by omega) hz HY.out
          omega
        have HL' := Lib.hid hL'
        have hd : decide (k x - k y < 0) = false := decide_eq_false hlt
        have hd2 : 0 ≤ k x - k y := by omega
        clear hL' hL hlt
        go_wp2_with fail
        refine wp_region_quiet_below mixed (by kernel_rfl) ?_
        repeat (quiet_step ((go_at_call 58; exact below_by (hcmp.out _))))
        refine wpQuiet_nil ?_
        intro w3 hw'
        obtain ⟨⟨w4, hw3⟩, hw''⟩ := hw'
        change w3 = w4 at hw''
        subst hw''
        have hR3 := Lib.hid (hR.out.below hw3)
        have hg3 := Lib.hid (grown_below hg.out hw3)
        clear c1 c2 hcmp hR hg hw3 hh
        go_wp2
        go_roundw
        case rel => exact ⟨h + 1, j, by omega, by omega, by omega, by go_num, rfl, HL', hU, hR3, hg3⟩
        case measure => simp [intOf]; omega
    · obtain rfl : i = j := by omega
      obtain ⟨p, rfl⟩ : ∃ p, i = a + p := ⟨i - a, by omega⟩
      have hfin : X.take p ++ x :: X.drop p = ssort k (X ++ [x]) := by
        have := put_right (k := k) (P := X.take p) (Q := X.drop p) (x := x) (by rw [List.take_append_drop]; exact HS.out) (cut_lt fun u y hu => hL.out u y (by omega)) (cut_ge fun u y hu => hU.out u y (by omega))
        rwa [List.take_append_drop] at this
      have HF := Lib.hid hfin
      have hpX : p ≤ X.length := by omega
      clear hfin hL hU
      go_wp2
      go_loopw [17] (fun v w2 => ∃ t : Nat, p ≤ t ∧ t ≤ X.length ∧ v = .int .i64 ((a : Int) + t) ∧ Hid (RW blk S (A ++ (X.take t ++ x :: (X.drop t ++ B))).toArray w2) ∧ Hid (W0.grownBy w2 (some blk))) (fun v _ => (intOf v).toNat)
      case atStart => exact ⟨X.length, by omega, by omega, by congr 1; omega, by show RW _ _ _ _; simpa using hR.out, hg⟩
      case round =>
        obtain ⟨t, ht0, ht, rfl, hR2, hg2⟩ := hrel
        clear hR hg
        by_cases htp : p < t
        · obtain ⟨s, rfl⟩ : ∃ s, t = s + 1 := ⟨t - 1, by omega⟩
          have htx : s < X.length := by omega
          obtain ⟨y, hy⟩ : ∃ y, X[s] = y := ⟨_, rfl⟩
          have hR3 : RW blk S ((A ++ X.take s) ++ y :: ([] ++ x :: (X.drop (s + 1) ++ B))).toArray wr := by
            have := hR2.out
            rw [List.take_succ_eq_append_getElem htx, hy] at this
            simpa using this
          have e1 : (A ++ X.take s).length = off + (a + s) := by have := HA.out; simp; omega
          have e2 : off + (a + s) + 1 + ([] : List Int).length = off + (a + s + 1) := by simp; omega
          have c1 : wr.cell? ⟨blk, off + (a + s), none⟩ = some (.int .i32 y) := hR3.at e1
          have c2 : wr.cell? ⟨blk, off + (a + s + 1), none⟩ = some (.int .i32 x) := by
            have h3 := hR3
            rw [List.nil_append, show (A ++ X.take s) ++ y :: x :: (X.drop (s + 1) ++ B) = ((A ++ X.take s) ++ [y]) ++ x :: (X.drop (s + 1) ++ B) by simp] at h3
            exact h3.at (by rw [List.length_append, e1]; simp; omega)
          have fr := fun i => hR3.frozen i
          have hR4 := Lib.hid (RW.drew (hR3.exch' e1 e2))
          have hNx : Hid ((A ++ X.take s) ++ x :: ([] ++ y :: (X.drop (s + 1) ++ B)) = A ++ (X.take s ++ x :: (X.drop s ++ B))) := by
            show _ = _
            rw [List.drop_eq_getElem_cons htx, hy]
            simp only [List.append_assoc, List.cons_append, List.nil_append]
          have n1 : a + s < n := by omega
          have n2 : a + s + 1 < n := by omega
          obtain ⟨z, hz⟩ : ∃ z, a + s = z := ⟨_, rfl⟩
          have hzi : (a : Int) + ((s + 1 : Nat) : Int) = ((z + 1 : Nat) : Int) := by omega
          have hcond : a + p < z + 1 := by omega
          have HZ := Lib.hid hz
          rw [hz] at c1 c2 n1 n2 hR4
          have n3 : ((z : Int) + 1) < n := by omega
          clear hR2 hR3 e1 e2 hy hz
          rw [hzi]
          clear hzi
          go_wp2_with fail
          go_region
          have hg4 : wr.grownBy _ (some blk) := swp_grown wr blk (off + (z + 1)) (off + z) (.int .i32 y) (.int .i32 x)
          go_wp2
          go_roundw
          case rel => exact ⟨s, by omega, by omega, by have := HZ.out; first | go_num | (congr 1; omega), by show RW _ _ _ _; rw [← hNx.out]; exact hR4.out, hg2.out.trans hg4⟩
          case measure => simp [intOf] <;> omega
        · obtain rfl : t = p := by omega
          have hR' : RW blk S (A ++ (ssort k (X ++ [x]) ++ B)).toArray wr := by
            have := hR2.out
            rw [← HF.out]; simpa using this
          have HR' := Lib.hid hR'
          clear hR' hR2
          go_wp2
          go_end0
          exact ⟨rfl, HR'.out, hg2.out⟩

end Go.Proofs.YtgidpknckbgmbaaGreatDoor
