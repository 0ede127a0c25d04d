/- Sorting points stably: two sorted neighbouring ranges made one. -/
import Derived.Test.YtgidpknckbgmbaaGreatDoorSt5
set_option linter.unusedSimpArgs false
set_option linter.unusedVariables false
namespace Go.Proofs.YtgidpknckbgmbaaGreatDoor
open Go.RowKit Go.Sort

/-- What stands left of the place up to which both rows were cut, and what stands right of it. -/
theorem sym_split {k : Int → Int} {X1 X2 L1 R1 L2 R2 : List Int} (e1 : X1 = L1 ++ R1) (e2 : X2 = L2 ++ R2) (h1 : Srt k X1) (h2 : Srt k X2) (hA : ∀ y ∈ L1, ∀ z ∈ R2, k y ≤ k z) (hB : ∀ y ∈ R1, ∀ z ∈ L2, k z < k y) :
    ssort k (L1 ++ L2) ++ ssort k (R1 ++ R2) = ssort k (X1 ++ X2) := by
  subst e1 e2
  refine ssort_is ?_ ?_
  · refine (ssort_srt _ _).app (ssort_srt _ _) fun x hx y hy => ?_
    have hx' := (ssort_st k (L1 ++ L2)).symm.mem hx
    have hy' := (ssort_st k (R1 ++ R2)).symm.mem hy
    rcases List.mem_append.1 hx' with hx' | hx' <;> rcases List.mem_append.1 hy' with hy' | hy'
    · exact h1.le x hx' y hy'
    · exact hA x hx' y hy'
    · have := hB y hy' x hx'; omega
    · exact h2.le x hx' y hy'
  · have t : StEq k (R1 ++ L2) (L2 ++ R1) := StEq.turn fun y hy z hz => by have := hB y hy z hz; omega
    have := ((StEq.refl (k := k) L1).app t).app (StEq.refl R2)
    refine StEq.trans (m := (L1 ++ L2) ++ (R1 ++ R2)) (by simpa using this) ?_
    exact (ssort_st k _).app (ssort_st k _)

/-- The place that the search ends at cuts well. -/
theorem sym_cut {k : Int → Int} {X1 X2 : List Int} {a m b d s s0 r0 : Nat} (h1 : Srt k X1) (h2 : Srt k X2) (hm : a + X1.length = m) (hb : m + X2.length = b) (hd : d ≤ b) (ha : a ≤ s0) (hsm : r0 ≤ m) (hrd : r0 ≤ d) (h0 : s0 ≤ s) (hr : s ≤ r0)
    (b1 : s0 = a ∨ d + m = s0 + b) (b2 : r0 = m ∨ r0 = d) (hbd : d + m ≤ s0 + b)
    (il : s = s0 ∨ ∃ y z, X1[s - 1 - a]? = some y ∧ X2[d - s]? = some z ∧ k y ≤ k z) (ir : s = r0 ∨ ∃ y z, X1[s - a]? = some y ∧ X2[d - 1 - s]? = some z ∧ k z < k y) :
    (∀ y ∈ X1.take (s - a), ∀ z ∈ X2.drop (d - s), k y ≤ k z) ∧ (∀ y ∈ X1.drop (s - a), ∀ z ∈ X2.take (d - s), k z < k y) := by
  refine ⟨?_, ?_⟩
  · rcases il with e | ⟨y0, z0, e1, e2, e3⟩
    · subst e
      rcases b1 with e | e
      · subst e; simp
      · intro y _ z hz
        rw [List.drop_of_length_le (by omega)] at hz
        cases hz
    · refine cut_lt (R := fun y => ∀ z ∈ X2.drop (d - s), k y ≤ k z) fun u y hu hy => cut_ge (R := fun z => k y ≤ k z) fun v z hv hz => ?_
      have q1 := h1.get (show u ≤ s - 1 - a by omega) hy e1
      have q2 := h2.get hv e2 hz
      omega
  · rcases ir with e | ⟨y0, z0, e1, e2, e3⟩
    · subst e
      rcases b2 with e | e
      · intro y hy
        rw [List.drop_of_length_le (by omega)] at hy
        cases hy
      · subst e; simp
    · refine cut_ge (R := fun y => ∀ z ∈ X2.take (d - s), k z < k y) fun u y hu hy => cut_lt (R := fun z => k z < k y) fun v z hv hz => ?_
      have q1 := h1.get hu e1 hy
      have q2 := h2.get (show v ≤ d - 1 - s by omega) hz e2
      omega

set_option maxHeartbeats 2000000 in
set_option maxRecDepth 100000 in
theorem sym_step (W0 : World) (k : Int → Int) (pb blk S off n cap N : Nat) (hC : CmpOK W0 blk pb k) (hbig : off + n ≤ 2305843009213693951) (IH : SymOK W0 k pb blk S off n cap N)
    (a m b : Nat) (A X1 X2 B : List Int) (w : World) (hg : W0.grownBy w (some blk)) (h : RW blk S (A ++ (X1 ++ (X2 ++ B))).toArray w) (h1 : Srt k X1) (h2 : Srt k X2)
    (hA : A.length = off + a) (hX1 : a + X1.length = m) (hX2 : m + X2.length = b) (hl1 : 1 < X1.length) (hl2 : 1 < X2.length) (hb : b ≤ n) (hN : b ≤ a + (N + 1)) :
    Calls Tryz.prog 109 #[.slice (some ⟨blk, off, none⟩) n cap, .int .i64 a, .int .i64 m, .int .i64 b, cmpV pb] w (StPost W0 blk S (A ++ (ssort k (X1 ++ X2) ++ B))) := by
  have mixed : Tryz.prog.follows .mixedOrders = true := by kernel_rfl
  obtain ⟨d, hd, hd1⟩ : ∃ d : Nat, ((a : Int) + b) / 2 = d ∧ d = (a + b) / 2 := ⟨(a + b) / 2, by omega, rfl⟩
  obtain ⟨s0, r0, q1, q2, q3, q4, q5, q6, q7, q8⟩ : ∃ s0 r0 : Nat, a ≤ s0 ∧ s0 ≤ r0 ∧ r0 ≤ m ∧ r0 ≤ d ∧ d + m ≤ s0 + b ∧ (s0 = a ∨ d + m = s0 + b) ∧ (r0 = m ∨ r0 = d) ∧ ((d < m ∧ d + m = s0 + b ∧ r0 = d) ∨ (m ≤ d ∧ s0 = a ∧ r0 = m)) := by
    by_cases hmd : d < m
    · exact ⟨d + m - b, d, by omega, by omega, by omega, by omega, by omega, by omega, by omega, by omega⟩
    · exact ⟨a, m, by omega, by omega, by omega, by omega, by omega, by omega, by omega, by omega⟩
  have hm1 : ((m : Int) - a == 1) = false := beq_eq_false_iff_ne.2 (by omega)
  have hm2 : ((b : Int) - m == 1) = false := beq_eq_false_iff_ne.2 (by omega)
  have o1 : a < m ∧ m < b ∧ a < d ∧ d < b := by omega
  have HX := Lib.hid (And.intro hA (And.intro hX1 (And.intro hX2 (And.intro hd1 (And.intro q6 q7)))))
  have H := Lib.hid h
  have HG := Lib.hid hg
  have HC := Lib.hid hC
  have H1 := Lib.hid h1
  have H2 := Lib.hid h2
  have HI := Lib.hid IH
  have HQ := Lib.hid q8
  have hn1 : b ≤ a + N + 1 := by omega
  clear h hg hC hA h1 h2 hX1 hX2 hd1 q6 q7 q8 IH hN
  unfold cmpV
  go_enter Tryz.func109, Tryz.ntmps109
  go_upto_if 140 with fail
  clear hd
  go_cut [20, 21] from 22 (fun v20 v21 wx => v20 = .int .i64 s0 ∧ v21 = .int .i64 r0 ∧ wx = w)
  case first =>
    rcases HQ.out with ⟨c1, c2, c3⟩ | ⟨c1, c2, c3⟩
    · subst c3
      have e0 : (r0 : Int) + m - b = s0 := by omega
      go_wp2
      go_meet
      exact ⟨rfl, rfl, rfl⟩
    · subst c2 c3
      have e0 : ¬ d < r0 := by omega
      go_wp2
      go_meet
      exact ⟨rfl, rfl, rfl⟩
  case rest =>
  obtain ⟨rfl, rfl, rfl⟩ := hcut
  have hp0 : ((d : Int) + m - 1) = ((d + m - 1 : Nat) : Int) := by omega
  go_wp2_with fail
  go_loopw [20, 21] (fun vi vj wr => ∃ s r : Nat, s0 ≤ s ∧ s ≤ r ∧ r ≤ r0 ∧ vi = .int .i64 s ∧ vj = .int .i64 r ∧ Hid (s = s0 ∨ ∃ y z, X1[s - 1 - a]? = some y ∧ X2[d - s]? = some z ∧ k y ≤ k z) ∧ Hid (r = r0 ∨ ∃ y z, X1[r - a]? = some y ∧ X2[d - 1 - r]? = some z ∧ k z < k y) ∧
      Hid (RW blk S (A ++ (X1 ++ (X2 ++ B))).toArray wr) ∧ Hid (W0.grownBy wr (some blk)))
    (fun vi vj _ => (intOf vj - intOf vi).toNat)
  case atStart => exact ⟨s0, r0, by omega, by omega, by omega, rfl, rfl, .inl rfl, .inl rfl, H, HG⟩
  case round =>
    obtain ⟨s, r, g1, g2, g3, rfl, rfl, hL, hU, hR, hg⟩ := hrel
    clear H HG
    by_cases hsr : s < r
    · obtain ⟨c, hc, hc1, hc2⟩ : ∃ c : Nat, ((s : Int) + r) / 2 = c ∧ s ≤ c ∧ c < r := ⟨(s + r) / 2, by omega, by omega, by omega⟩
      obtain ⟨hA, hX1, hX2, hd1, hq6, hq7⟩ := HX.out
      have i1 : c - a < X1.length := by omega
      have i2 : d - 1 - c < X2.length := by omega
      obtain ⟨y, hy⟩ : ∃ y, X1[c - a] = y := ⟨_, rfl⟩
      obtain ⟨z, hz⟩ : ∃ z, X2[d - 1 - c] = z := ⟨_, rfl⟩
      have HY := Lib.hid (show X1[c - a]? = some y by rw [List.getElem?_eq_getElem i1, hy])
      have HZ := Lib.hid (show X2[d - 1 - c]? = some z by rw [List.getElem?_eq_getElem i2, hz])
      have c1 : ∀ q : BelowBy wr, q.W.cell? ⟨blk, off + c, none⟩ = some (.int .i32 y) := fun q => by
        have := at_in (hR.out.below q.h) (p := c - a) (i := off + c) i1 (by omega)
        rwa [hy] at this
      have c2 : ∀ q : BelowBy wr, q.W.cell? ⟨blk, off + (d + m - 1 - c), none⟩ = some (.int .i32 z) := fun q => by
        have h3 := hR.out.below q.h
        rw [← List.append_assoc] at h3
        have := at_in h3 (p := d - 1 - c) (i := off + (d + m - 1 - c)) i2 (by simp; omega)
        rwa [hz] at this
      have hcmp := Lib.hid fun q : BelowBy wr => HC.out q.W (grown_below hg.out q.h) z y
      have hn2 : c < n := by omega
      have hn3 : d + m - 1 - c < n := by omega
      have hwr : IntKind.i64.wrap (((d + m - 1 : Nat) : Int) - c) = ((d + m - 1 - c : Nat) : Int) := by rw [IntKind.wrap_i64]; omega
      clear hA hX1 hX2 hd1 hq6 hq7 i1 i2 hy hz
      by_cases hlt : k z - k y < 0
      · have hd : decide (k z - k y < 0) = true := decide_eq_true hlt
        have hU' : Hid (c = r0 ∨ ∃ y z, X1[c - a]? = some y ∧ X2[d - 1 - c]? = some z ∧ k z < k y) := .inr ⟨y, z, HY.out, HZ.out, by omega⟩
        clear hU
        go_wp2_with fail
        refine wp_region_quiet_below mixed (by kernel_rfl) ?_
        repeat (quiet_step ((go_at_call 58; exact below_by (hcmp.out _))))
        refine wpQuiet_nil ?_
        intro w3 hw'
        obtain ⟨⟨w4, hw3⟩, hw''⟩ := hw'
        change w3 = w4 at hw''
        subst hw''
        have hR3 := Lib.hid (hR.out.below hw3)
        have hg3 := Lib.hid (grown_below hg.out hw3)
        clear c1 c2 hcmp hR hg hw3 hc hwr
        go_wp2
        go_roundw
        case rel => exact ⟨s, c, by omega, by omega, by omega, rfl, rfl, hL, hU', hR3, hg3⟩
        case measure => simp [intOf]; omega
      · have hd : decide (k z - k y < 0) = false := decide_eq_false hlt
        have hL' : Hid (c + 1 = s0 ∨ ∃ y z, X1[c + 1 - 1 - a]? = some y ∧ X2[d - (c + 1)]? = some z ∧ k y ≤ k z) := .inr ⟨y, z, HY.out, by rw [← HZ.out]; congr 1; omega, by omega⟩
        have hd2 : 0 ≤ k z - k y := by omega
        clear hL hlt
        go_wp2_with fail
        refine wp_region_quiet_below mixed (by kernel_rfl) ?_
        repeat (quiet_step ((go_at_call 58; exact below_by (hcmp.out _))))
        refine wpQuiet_nil ?_
        intro w3 hw'
        obtain ⟨⟨w4, hw3⟩, hw''⟩ := hw'
        change w3 = w4 at hw''
        subst hw''
        have hR3 := Lib.hid (hR.out.below hw3)
        have hg3 := Lib.hid (grown_below hg.out hw3)
        clear c1 c2 hcmp hR hg hw3 hc hwr
        go_wp2
        go_roundw
        case rel => exact ⟨c + 1, r, by omega, by omega, by omega, by go_num, rfl, hL', hU, hR3, hg3⟩
        case measure => simp [intOf]; omega
    · obtain rfl : s = r := by omega
      obtain ⟨hA, hX1, hX2, hd1, hq6, hq7⟩ := HX.out
      have hcu := sym_cut (k := k) H1.out H2.out hX1 hX2 (by omega) (by omega) q3 q4 g1 g3 hq6 hq7 q5 hL.out hU.out
      obtain ⟨L1, R1, e1, l1⟩ : ∃ L1 R1, X1 = L1 ++ R1 ∧ L1 = X1.take (s - a) ∧ R1 = X1.drop (s - a) := ⟨_, _, (List.take_append_drop _ _).symm, rfl, rfl⟩
      obtain ⟨L2, R2, e2, l2⟩ : ∃ L2 R2, X2 = L2 ++ R2 ∧ L2 = X2.take (d - s) ∧ R2 = X2.drop (d - s) := ⟨_, _, (List.take_append_drop _ _).symm, rfl, rfl⟩
      rw [← l1.1, ← l1.2, ← l2.1, ← l2.2] at hcu
      have n1 : a + L1.length = s := by rw [l1.1]; simp; omega
      have n2 : s + R1.length = m := by rw [l1.2]; simp; omega
      have n3 : s + L2.length = d := by rw [l2.1]; simp; omega
      obtain ⟨e, he⟩ : ∃ e : Nat, (d : Int) + m - s = e := ⟨d + m - s, by omega⟩
      have n4 : e + R2.length = b := by rw [l2.2]; simp; omega
      have hsrt := sym_split e1 e2 H1.out H2.out hcu.1 hcu.2
      have s1 : Srt k L1 ∧ Srt k R1 := by have := H1.out; rw [e1] at this; exact ⟨this.left, this.right⟩
      have s2 : Srt k L2 ∧ Srt k R2 := by have := H2.out; rw [e2] at this; exact ⟨this.left, this.right⟩
      have hR0 : RW blk S (A ++ (L1 ++ (R1 ++ (L2 ++ (R2 ++ B))))).toArray wr := by have := hR.out; rw [e1, e2] at this; simpa using this
      have hen : e ≤ n ∧ s ≤ d ∧ m ≤ e ∧ d ≤ e ∧ d ≤ n := by omega
      have HR0 := Lib.hid hR0
      have HE := Lib.hid hsrt
      have HN := Lib.hid (And.intro hA (And.intro n1 (And.intro n2 (And.intro n3 (And.intro n4 he)))))
      have HSS := Lib.hid (And.intro s1 s2)
      clear hA hX1 hX2 hd1 hq6 hq7 hcu e1 e2 l1 l2 n1 n2 n3 n4 hsrt s1 s2 hR0 hR hL hU
      go_upto_region 38 with fail
      rename_i K1 hK1
      have HK1 := Lib.hid hK1
      clear hK1
      go_wp2_with fail
      refine HK1.out _ _ ?_
      clear he hp0
      obtain ⟨hA, n1, n2, n3, n4, he⟩ := HN.out
      exact sym_tail1 W0 k pb blk S off n cap N hbig HI.out a m b d s e A L1 R1 L2 R2 B _ _ hg.out HR0.out HSS.out.1 HSS.out.2 hA n1 n3 (by omega) n4 hb hn1 ⟨o1.2.2.1, o1.2.2.2⟩ n2 (by rw [← HE.out]; simp) _ _ _ _ _ _ _ _ _ _ _ _ _ _ _ _ _ _ _ _ _ _ _ _ _ _ _ _ _ _ _ _ _ _ _ _ _ _ _ _ _ _ _ _ _ _ _ _ _ _ _ _ _ _ _ _ _ _ _ _ _ _ _ _ _ _ _ _ _ _ _ _ _ _ _ _ _ _ _ _ _ _ _ _ _ _ _ _ _ _ _ _ _ _ _ _ _ _ _ _ _ _ _ _ _ _ _ _ _ _ _ _ _ _ _ _ _ _ _ _ _ _ _ _ _ _ _ _ _ _ _ _ _ _ _ _ _ _ _ _ _ _ _ _ _ _ _ _ _ _ _ _ _ _ _ _ _ _ _ _ _ _ _ _ _ _ _ _ _ _ _ _ _ _ _ _ _ _ _ _ _ _ _ _ _ _ _ _ _ _ _ _ _ _ _ _ _ _ _ _ _ _ _ _ _ _ _ _ _ _ _ _

theorem sym_any (W0 : World) (k : Int → Int) (pb blk S off n cap : Nat) (hC : CmpOK W0 blk pb k) (hbig : off + n ≤ 2305843009213693951) : ∀ N, SymOK W0 k pb blk S off n cap N
  | 0 => fun a m b A X1 X2 B w _ _ _ _ _ hX1 hX2 hl1 hl2 _ hN => by omega
  | N + 1 => fun a m b A X1 X2 B w hg h h1 h2 hA hX1 hX2 hl1 hl2 hb hN => by
    by_cases c1 : X1.length = 1
    · obtain ⟨x, rfl⟩ := List.length_eq_one_iff.1 c1
      have e1 : a + 1 = m := by simpa using hX1
      exact symL_any W0 k pb blk S off n cap a m b x A X2 B w hC hg (by simpa using h) h2 hA (by omega) (by omega) hl2 hb (by omega)
    · by_cases c2 : X2.length = 1
      · obtain ⟨x, rfl⟩ := List.length_eq_one_iff.1 c2
        have e1 : m + 1 = b := by simpa using hX2
        exact symR_any W0 k pb blk S off n cap a m b x A X1 B w hC hg (by simpa using h) h1 hA hX1 (by omega) (by omega) hb (by omega)
      · exact sym_step W0 k pb blk S off n cap N hC hbig (sym_any W0 k pb blk S off n cap hC hbig N) a m b A X1 X2 B w hg h h1 h2 hA hX1 hX2 (by omega) (by omega) hb hN

end Go.Proofs.YtgidpknckbgmbaaGreatDoor
