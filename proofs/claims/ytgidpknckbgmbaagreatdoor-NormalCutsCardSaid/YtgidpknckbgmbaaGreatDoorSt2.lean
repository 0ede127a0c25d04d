/- Sorting points stably: two ranges of one length exchanged; two neighbouring ranges turned round. -/
import Derived.Test.YtgidpknckbgmbaaGreatDoorSt1
set_option linter.unusedSimpArgs false
set_option linter.unusedVariables false
namespace Go.Proofs.YtgidpknckbgmbaaGreatDoor
open Go.RowKit Go.Sort

/-- Two ranges of one length, i numbers of them exchanged. -/
def SRD (A U M V B : List Int) (i : Nat) : List Int := A ++ (V.take i ++ (U.drop i ++ (M ++ (U.take i ++ (V.drop i ++ B)))))
theorem SRD_split {A U M V B : List Int} {i : Nat} (hu : i < U.length) (hv : i < V.length) : SRD A U M V B i = (A ++ V.take i) ++ U[i] :: ((U.drop (i + 1) ++ (M ++ U.take i)) ++ V[i] :: (V.drop (i + 1) ++ B)) := by
  unfold SRD
  rw [List.drop_eq_getElem_cons hu, List.drop_eq_getElem_cons hv]
  simp only [List.append_assoc, List.cons_append]
theorem SRD_next {A U M V B : List Int} {i : Nat} (hu : i < U.length) (hv : i < V.length) : SRD A U M V B (i + 1) = (A ++ V.take i) ++ V[i] :: ((U.drop (i + 1) ++ (M ++ U.take i)) ++ U[i] :: (V.drop (i + 1) ++ B)) := by
  unfold SRD
  rw [List.take_succ_eq_append_getElem hu, List.take_succ_eq_append_getElem hv]
  simp only [List.append_assoc, List.cons_append, List.nil_append]

set_option maxHeartbeats 1000000 in
set_option maxRecDepth 100000 in
theorem swapR_any (blk S off n cap a b c : Nat) (ai bi ci : Int) (A U M V B : List Int) (fv : Value) (w : World) (hai : ai = a) (hbi : bi = b) (hci : ci = c) (h : RW blk S (A ++ (U ++ (M ++ (V ++ B)))).toArray w)
    (hA : A.length = off + a) (hU : U.length = c) (hV : V.length = c) (hM : a + c + M.length = b) (hb : b + c ≤ n) (hbig : off + n ≤ 4611686018427387904) :
    Calls Tryz.prog 132 #[.slice (some ⟨blk, off, none⟩) n cap, .int .i64 ai, .int .i64 bi, .int .i64 ci, fv] w (SrtPost blk S (A ++ (V ++ (M ++ (U ++ B)))).toArray w) := by
  subst hai hbi hci
  have hst : RW blk S (SRD A U M V B 0).toArray w := by unfold SRD; simpa using h
  have H := Lib.hid hst
  have HL := Lib.hid (And.intro hA (And.intro hU (And.intro hV hM)))
  clear h hst hA hU hV hM
  go_enter Tryz.func132, Tryz.ntmps132
  go_wp2
  go_loopw [10] (fun v wr => ∃ i : Nat, i ≤ c ∧ v = .int .i64 i ∧ Hid (RW blk S (SRD A U M V B i).toArray wr) ∧ Hid (w.grownBy wr (some blk))) (fun v _ => c - (intOf v).toNat)
  case atStart => exact ⟨0, by omega, rfl, H, World.grownBy.refl _ _⟩
  case round =>
    obtain ⟨i, hi, rfl, hR, hg⟩ := hrel
    by_cases hlt : i < c
    · obtain ⟨hA, hU, hV, hM⟩ := HL.out
      have hu : i < U.length := by omega
      have hv : i < V.length := by omega
      have hR1 := hR.out
      rw [SRD_split hu hv] at hR1
      have hNx := Lib.hid (SRD_next (A := A) (M := M) (B := B) hu hv)
      obtain ⟨x, hx⟩ : ∃ x, U[i] = x := ⟨_, rfl⟩
      obtain ⟨y, hy⟩ : ∃ y, V[i] = y := ⟨_, rfl⟩
      rw [hx, hy] at hR1
      have e1 : (A ++ V.take i).length = off + (a + i) := by simp; omega
      have e2 : off + (a + i) + 1 + (U.drop (i + 1) ++ (M ++ U.take i)).length = off + (b + i) := by simp; omega
      have c1 : wr.cell? ⟨blk, off + (a + i), none⟩ = some (.int .i32 x) := hR1.at e1
      have c2 : wr.cell? ⟨blk, off + (b + i), none⟩ = some (.int .i32 y) := by
        have := hR1
        rw [← List.cons_append, ← List.append_assoc] at this
        exact this.at (by simp at e1 e2 ⊢; omega)
      have fr := fun t => hR1.frozen t
      have hR4 := Lib.hid (RW.drew (hR1.exch e1 e2))
      have hab : ¬ a = b := by omega
      have hba : ¬ b = a := by omega
      have h1 : a + i < n := by omega
      have h2 : b + i < n := by omega
      have w1 : IntKind.i64.wrap ((a : Int) + i) = ((a + i : Nat) : Int) := by rw [IntKind.wrap_i64]; omega
      have w2 : IntKind.i64.wrap ((b : Int) + i) = ((b + i : Nat) : Int) := by rw [IntKind.wrap_i64]; omega
      have hNx' : Hid (SRD A U M V B (i + 1) = (A ++ V.take i) ++ y :: ((U.drop (i + 1) ++ (M ++ U.take i)) ++ x :: (V.drop (i + 1) ++ B))) := by have := hNx.out; rw [hx, hy] at this; exact this
      clear hx hy hA hU hV hM hu hv e1 e2 hR1 hR hNx
      go_wp2_with fail
      go_region
      have hg4 : wr.grownBy _ (some blk) := swp_grown wr blk (off + (a + i)) (off + (b + i)) (.int .i32 y) (.int .i32 x)
      clear w1 w2
      go_wp2
      go_roundw
      case rel => exact ⟨i + 1, by omega, by go_num, by show RW _ _ _ _; rw [hNx'.out]; exact hR4.out, hg.out.trans hg4⟩
      case measure => simp [intOf]; omega
    · obtain ⟨hA, hU, hV, hM⟩ := HL.out
      have hR' : RW blk S (A ++ (V ++ (M ++ (U ++ B)))).toArray wr := by
        have := hR.out
        unfold SRD at this
        rw [List.take_of_length_le (by omega), List.take_of_length_le (by omega), List.drop_of_length_le (by omega), List.drop_of_length_le (by omega)] at this
        simpa using this
      have HR' := Lib.hid hR'
      clear hR' hA hU hV hM
      go_wp2
      go_end0
      exact ⟨rfl, HR'.out, hg.out⟩

theorem int_ne {i j : Nat} (h : i ≠ j) : ((i : Int) != j) = true := by rw [bne_iff_ne]; omega
theorem int_nne {i : Nat} : ((i : Int) != i) = false := by simp

set_option maxHeartbeats 1000000 in
set_option maxRecDepth 100000 in
theorem rotate_any (blk S off n cap a m b : Nat) (A U V B : List Int) (fv : Value) (w : World) (h : RW blk S (A ++ (U ++ (V ++ B))).toArray w)
    (hA : A.length = off + a) (hU : a + U.length = m) (hV : m + V.length = b) (hu : 0 < U.length) (hv : 0 < V.length) (hb : b ≤ n) (hbig : off + n ≤ 4611686018427387904) :
    Calls Tryz.prog 126 #[.slice (some ⟨blk, off, none⟩) n cap, .int .i64 a, .int .i64 m, .int .i64 b, fv] w (SrtPost blk S (A ++ (V ++ (U ++ B))).toArray w) := by
  have H := Lib.hid h
  obtain ⟨L, hL⟩ : ∃ L, A ++ (V ++ (U ++ B)) = L := ⟨_, rfl⟩
  rw [hL]
  have HI : Hid (∃ A1 U1 V1 B1, U.length = U1.length ∧ V.length = V1.length ∧ A1.length + U1.length = off + m ∧ RW blk S (A1 ++ (U1 ++ (V1 ++ B1))).toArray w ∧ A1 ++ (V1 ++ (U1 ++ B1)) = L) := ⟨A, U, V, B, rfl, rfl, by omega, h, hL⟩
  clear h hL H hA
  go_enter Tryz.func126, Tryz.ntmps126
  go_wp2
  go_loopw [10, 11] (fun vi vj wr => ∃ i j : Nat, 0 < i ∧ 0 < j ∧ a + i ≤ m ∧ m + j ≤ b ∧ vi = .int .i64 i ∧ vj = .int .i64 j ∧ Hid (∃ A1 U1 V1 B1, i = U1.length ∧ j = V1.length ∧ A1.length + U1.length = off + m ∧ RW blk S (A1 ++ (U1 ++ (V1 ++ B1))).toArray wr ∧ A1 ++ (V1 ++ (U1 ++ B1)) = L) ∧ Hid (w.grownBy wr (some blk)))
    (fun vi vj _ => (intOf vi).toNat + (intOf vj).toNat)
  case atStart => exact ⟨U.length, V.length, hu, hv, by omega, by omega, by first | go_num | (congr 1; omega), by first | go_num | (congr 1; omega), HI, World.grownBy.refl _ _⟩
  case round =>
    obtain ⟨i, j, hi0, hj0, hi1, hj1, rfl, rfl, hI, hg⟩ := hrel
    rcases Nat.lt_trichotomy i j with hlt | heq | hgt
    · obtain ⟨A1, U1, V1, B1, e1, e2, e3, hR, e4⟩ := hI.out
      have hne := int_ne (show i ≠ j by omega)
      have hsp : V1 = V1.take (j - i) ++ V1.drop (j - i) := (List.take_append_drop _ _).symm
      have hR1 : RW blk S (A1 ++ (U1 ++ (V1.take (j - i) ++ (V1.drop (j - i) ++ B1)))).toArray wr := by
        rw [← List.append_assoc (V1.take (j - i)), ← hsp]; exact hR
      have hc := swapR_any blk S off n cap (m - i) (m + j - i) i ((m : Int) - i) ((m : Int) + j - i) i A1 U1 (V1.take (j - i)) (V1.drop (j - i)) B1 fv wr (by omega) (by omega) rfl hR1 (by omega) (by omega) (by simp; omega) (by simp; omega) (by omega) hbig
      have HCl := Lib.hid hc
      have HI' : Hid (j - i = (V1.take (j - i)).length ∧ A1.length + (V1.drop (j - i)).length = off + m ∧ A1 ++ (V1.take (j - i) ++ (V1.drop (j - i) ++ (U1 ++ B1))) = L) := ⟨by simp; omega, by simp; omega, by rw [← List.append_assoc (V1.take (j - i)), ← hsp]; exact e4⟩
      have HL : Hid (i = (V1.drop (j - i)).length) := by show _ = _; simp; omega
      have hngt : ¬ j < i := by omega
      clear e1 e2 e3 hR e4 hsp hR1 hc hI
      go_wp2_with (go_at_call 132; refine HCl.out.mono ?_; rintro e w1 ⟨rfl, hR2, hg2⟩)
      go_roundw
      case rel => exact ⟨i, j - i, hi0, by omega, hi1, by omega, by go_num, by first | go_num | (congr 1; omega), ⟨A1, V1.drop (j - i), V1.take (j - i), U1 ++ B1, HL.out, HI'.out.1, HI'.out.2.1, hR2, HI'.out.2.2⟩, hg.out.trans hg2⟩
      case measure => simp [intOf]; omega
    · subst heq
      obtain ⟨A1, U1, V1, B1, e1, e2, e3, hR, e4⟩ := hI.out
      have hne := int_nne (i := i)
      have hc := swapR_any blk S off n cap (m - i) m i ((m : Int) - i) m i A1 U1 [] V1 B1 fv wr (by omega) rfl rfl hR (by omega) (by omega) (by omega) (by simp; omega) (by omega) hbig
      have HCl := Lib.hid hc
      have HE := Lib.hid e4
      clear e1 e2 e3 hR e4 hc hI
      go_wp2_with (go_at_call 132; refine HCl.out.mono ?_; rintro e w1 ⟨rfl, hR2, hg2⟩)
      go_end0
      exact ⟨rfl, by rw [← HE.out]; exact hR2, hg.out.trans hg2⟩
    · obtain ⟨A1, U1, V1, B1, e1, e2, e3, hR, e4⟩ := hI.out
      have hne := int_ne (show i ≠ j by omega)
      have hsp : U1 = U1.take j ++ U1.drop j := (List.take_append_drop _ _).symm
      have hR1 : RW blk S (A1 ++ (U1.take j ++ (U1.drop j ++ (V1 ++ B1)))).toArray wr := by
        rw [← List.append_assoc (U1.take j), ← hsp]; exact hR
      have hc := swapR_any blk S off n cap (m - i) m j ((m : Int) - i) m j A1 (U1.take j) (U1.drop j) V1 B1 fv wr (by omega) rfl rfl hR1 (by omega) (by simp; omega) (by omega) (by simp; omega) (by omega) hbig
      have HCl := Lib.hid hc
      have HI' : Hid ((A1 ++ V1).length + (U1.drop j).length = off + m ∧ (A1 ++ V1) ++ (U1.take j ++ (U1.drop j ++ B1)) = L) := ⟨by simp; omega, by rw [← List.append_assoc (U1.take j), ← hsp, List.append_assoc]; exact e4⟩
      have HL : Hid (i - j = (U1.drop j).length ∧ j = (U1.take j).length) := by show _ ∧ _; simp; omega
      clear e1 e2 e3 hR e4 hsp hR1 hc hI
      go_wp2_with (go_at_call 132; refine HCl.out.mono ?_; rintro e w1 ⟨rfl, hR2, hg2⟩)
      go_roundw
      case rel => exact ⟨i - j, j, by omega, hj0, by omega, hj1, by first | go_num | (congr 1; omega), by go_num, ⟨A1 ++ V1, U1.drop j, U1.take j, B1, HL.out.1, HL.out.2, HI'.out.1, by rw [List.append_assoc]; exact hR2, HI'.out.2⟩, hg.out.trans hg2⟩
      case measure => simp [intOf]; omega

end Go.Proofs.YtgidpknckbgmbaaGreatDoor
