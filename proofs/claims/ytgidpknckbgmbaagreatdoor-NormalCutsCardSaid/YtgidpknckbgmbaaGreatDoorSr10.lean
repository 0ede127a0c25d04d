/- Sorting points: breaking patterns. -/
import Derived.Test.YtgidpknckbgmbaaGreatDoorSr9
import Derived.BigRegion
set_option linter.unusedSimpArgs false
set_option linter.unusedVariables false
namespace Go.Proofs.YtgidpknckbgmbaaGreatDoor
open Go.RowKit Go.Sort Go.Lib

theorem grown_box {w wr : World} {blk : Nat} (h : w.grownBy wr (some blk)) (v : Value) (n : Nat) : w.grownBy ((wr.setCell ⟨w.heap.size, 0, none⟩ v).drewN n) (some blk) :=
  ⟨h.os, h.tape, h.output, by simpa using h.size, fun k hk hn => (Below.heap_setCell _ _ _ _ (by show k ≠ w.heap.size; omega)).trans (h.block k hk hn)⟩
theorem grown_swp {w wr : World} {blk : Nat} (h : w.grownBy wr (some blk)) (i j : Nat) (a b : Value) : w.grownBy ((wr.setCell ⟨blk, i, none⟩ a).setCell ⟨blk, j, none⟩ b).drew (some blk) :=
  h.trans (swp_grown wr blk i j a b)
theorem box_swp {W : World} {blk c : Nat} {v : Value} (hne : c ≠ blk) (hc : W.cell? ⟨c, 0, none⟩ = some v) (hf : W.frozen? ⟨c, 0, none⟩ = false) (x y : Nat) (u u' : Value) :
    ((W.setCell ⟨blk, x, none⟩ u).setCell ⟨blk, y, none⟩ u').drew.cell? ⟨c, 0, none⟩ = some v ∧ ((W.setCell ⟨blk, x, none⟩ u).setCell ⟨blk, y, none⟩ u').drew.frozen? ⟨c, 0, none⟩ = false := by
  refine ⟨?_, ?_⟩
  · show ((W.setCell ⟨blk, x, none⟩ u).setCell ⟨blk, y, none⟩ u').cell? _ = _
    rw [World.cell?_setCell_other _ _ _ _ (by intro e; simp only [Addr.mk.injEq] at e; exact hne e.1.symm), World.cell?_setCell_other _ _ _ _ (by intro e; simp only [Addr.mk.injEq] at e; exact hne e.1.symm)]
    exact hc
  · show ((W.setCell ⟨blk, x, none⟩ u).setCell ⟨blk, y, none⟩ u').frozen? _ = _
    simpa using hf

set_option maxHeartbeats 8000000 in
set_option maxRecDepth 1000000 in
theorem break_go (blk S n cap a L : Nat) (d : Array Int) (w : World) (h : RW blk S d w) (hn : d.size = n) (h8 : 8 ≤ L) (hb : a + L ≤ n) (hbig : n ≤ 1048577) :
    Calls Tryz.prog 99 #[.slice (some ⟨blk, 0, none⟩) n cap, .int .i64 a, .int .i64 ((a + L : Nat) : Int)] w fun e w' => e = .returned (.tuple #[]) ∧ RW blk S (breakPatterns d a (a + L)) w' ∧ w.grownBy w' (some blk) := by
  rw [breakPatterns_eq d a L h8]
  obtain ⟨M, hM⟩ : ∃ M : Nat, M = 1 <<< bitsLen L := ⟨_, rfl⟩
  have hM1 : 1 ≤ M := by rw [hM, Nat.one_shiftLeft]; exact Nat.two_pow_pos _
  have hM2 : M ≤ 2 * L := by rw [hM, Nat.one_shiftLeft]; exact two_pow_bitsLen_le (by omega)
  have hNP : ∀ w, Calls Tryz.prog 121 #[.int .i64 (L : Int)] w fun e w' => e = .returned (.int .u64 (M : Int)) ∧ w' = w := by rw [hM]; exact fun w => nextPow_any L (by omega) w
  rw [← hM]
  clear hM
  have hLz : ((a : Int) + (L : Int) - (a : Int)) = (L : Int) := by omega
  have h8z : (8 : Int) ≤ (L : Int) := by omega
  have hlt := h.lt
  have hne : w.heap.size ≠ blk := by omega
  have H := Lib.hid h
  clear h
  go_enter Tryz.func99, Tryz.ntmps99
  go_wp2_with (first | (go_at_call 121; refine (hNP _).mono ?_; rintro e w' ⟨rfl, rfl⟩))
  go_loopw [9] (fun vi wr => ∃ (t I : Nat) (r : UInt64) (dk : Array Int), vi = .int .i64 (I : Int) ∧ a + L / 4 * 2 - 1 + t = I ∧ t ≤ 3 ∧ dk.size = n ∧ Hid (RW blk S dk wr) ∧ Hid (w.grownBy wr (some blk)) ∧
      wr.cell? ⟨w.heap.size, 0, none⟩ = some (.int .u64 (r.toNat : Int)) ∧ wr.frozen? ⟨w.heap.size, 0, none⟩ = false ∧
      Hid (bpRest a L M (a + L / 4 * 2 - 1) (3 - t) t (r, dk) = bpRest a L M (a + L / 4 * 2 - 1) 3 0 (UInt64.ofNat L, d)))
    (fun vi _ => a + L + 3 - (intOf vi).toNat)
  case atStart =>
    refine ⟨0, a + L / 4 * 2 - 1, UInt64.ofNat L, d, by congr 1; omega, by omega, by omega, hn, H.out.same (Below.heap_alloc w _ blk hlt), ⟨rfl, rfl, rfl, by simp, fun k hk _ => Below.heap_alloc w _ k hk⟩, ?_, by simp, rfl⟩
    rw [show (UInt64.ofNat L).toNat = L from by simp; omega]
    simp
  case round =>
    clear H
    obtain ⟨t, I, r, dk, rfl, hI, ht, hds, S1, G1, cR, fR, HR⟩ := hrel
    by_cases ht3 : t < 3
    · have hle : (I : Int) ≤ (a : Int) + (L : Int) / 4 * 2 + 1 := by omega
      obtain ⟨R0, hRr⟩ : ∃ R0 : Nat, R0 = r.toNat := ⟨_, rfl⟩
      have lR : R0 < 18446744073709551616 := by rw [hRr]; exact r.toNat_lt
      obtain ⟨R', hR'⟩ : ∃ R' : Nat, R' = xorNextN R0 := ⟨_, rfl⟩
      have lR' : R' < 18446744073709551616 := by rw [hR']; exact xorNextN_lt R0 lR
      obtain ⟨O, hO⟩ : ∃ O : Nat, O = R' &&& (M - 1) := ⟨_, rfl⟩
      have lO : O ≤ M - 1 := by rw [hO]; exact Nat.and_le_right
      have eAnd : bits .and .u64 (R' : Int) ((M : Int) - 1) = (O : Int) := by
        rw [show ((M : Int) - 1) = ((M - 1 : Nat) : Int) by omega, bits_and_u64_nat _ _ lR' (by omega), hO]
      rw [← hRr] at cR
      have hNext : Calls Tryz.prog 122 #[.pointer (some ⟨w.heap.size, 0, none⟩)] wr fun e w' => e = .returned (.int .u64 (R' : Int)) ∧ w' = (wr.setCell ⟨w.heap.size, 0, none⟩ (.int .u64 (R' : Int))).drewN 3 := by
        rw [hR']; exact xorshift_any _ R0 lR wr cR fR
      have HN : Hid (R' = (xorNext r).toNat ∧ O = (xorNext r).toNat &&& (M - 1)) := by
        have e : R' = (xorNext r).toNat := by rw [hR', hRr, xorNext_toNat]
        exact ⟨e, by rw [hO, e]⟩
      clear hRr hR' hO
      have R2 := Lib.hid (RW.same S1.out (w' := (wr.setCell ⟨w.heap.size, 0, none⟩ (.int .u64 (R' : Int))).drewN 3) (Below.heap_setCell _ _ _ _ (by show blk ≠ w.heap.size; omega)))
      have G2 := Lib.hid (grown_box G1.out (.int .u64 (R' : Int)) 3)
      have cR' : ((wr.setCell ⟨w.heap.size, 0, none⟩ (.int .u64 (R' : Int))).drewN 3).cell? ⟨w.heap.size, 0, none⟩ = some (.int .u64 (R' : Int)) := by
        rw [World.cell?_drewN]; exact World.cell?_setCell_same _ _ _ cR
      have fR' : ((wr.setCell ⟨w.heap.size, 0, none⟩ (.int .u64 (R' : Int))).drewN 3).frozen? ⟨w.heap.size, 0, none⟩ = false := by
        rw [World.frozen?_drewN]; simpa using fR
      generalize (wr.setCell ⟨w.heap.size, 0, none⟩ (.int .u64 (R' : Int))).drewN 3 = w2 at hNext R2 G2 cR' fR'
      clear cR fR S1 G1
      by_cases hLO : L ≤ O
      · have hLOz : (L : Int) ≤ (O : Int) := by omega
        have c1 := R2.out.cell (j := I) (by omega)
        have c2 := R2.out.cell (j := a + (O - L)) (by omega)
        have fr := fun t => R2.out.frozen t
        have c5 := (R2.out.set I dk[a + (O - L)]! (by omega)).cell (j := a + (O - L)) (by simp; omega)
        generalize Value.int .i32 (dk.setIfInBounds I dk[a + (O - L)]!)[a + (O - L)]! = v6 at c5
        have hR6 := R2.out.swp I (a + (O - L)) (by omega) (by omega)
        have hg6 := grown_swp G2.out I (a + (O - L)) (.int .i32 dk[a + (O - L)]!) (.int .i32 dk[I]!)
        have hk6 := box_swp hne cR' fR' I (a + (O - L)) (.int .i32 dk[a + (O - L)]!) (.int .i32 dk[I]!)
        generalize dk[I]! = y1 at c1 hR6 hg6 hk6
        generalize dk[a + (O - L)]! = y2 at c2 c5 hR6 hg6 hk6
        obtain ⟨J, hJ⟩ : ∃ J, a + (O - L) = J := ⟨_, rfl⟩
        rw [hJ] at c2 c5 hR6 hg6 hk6
        have HR6 := Lib.hid (RW.same hR6 (w' := ((w2.setCell ⟨blk, I, none⟩ (.int .i32 y2)).setCell ⟨blk, J, none⟩ (.int .i32 y1)).drew) rfl)
        have HG6 := Lib.hid hg6
        have HK6 := Lib.hid hk6
        have hJi : (a : Int) + ((O : Int) - (L : Int)) = (J : Int) := by omega
        clear hR6 hg6 hk6 R2 G2 cR' fR'
        go_wp2_with (go_at_call 122; refine hNext.mono ?_; rintro e w' ⟨rfl, hw'⟩; obtain rfl : w2 = w' := hw'.symm)
        go_region
        generalize ((w2.setCell ⟨blk, I, none⟩ (.int .i32 y2)).setCell ⟨blk, J, none⟩ (.int .i32 y1)).drew = w3 at HR6 HG6 HK6 ⊢
        go_wp2
        go_roundw
        case measure => simp [intOf]; omega
        case rel =>
          refine ⟨t + 1, I + 1, xorNext r, swp dk I J, rfl, by omega, by omega, by rw [size_swp]; exact hds, HR6.out, HG6.out, by rw [← HN.out.1]; exact HK6.out.1, HK6.out.2, ?_⟩
          show Hid _
          rw [← HR.out, ← hI, ← hJ, bp_step a L M _ t r dk ((O - L)) ht3 (by rw [← HN.out.2, if_pos (by omega)])]
          exact rfl
      · have hLOz : ¬ (L : Int) ≤ (O : Int) := by omega
        have c1 := R2.out.cell (j := I) (by omega)
        have c2 := R2.out.cell (j := a + O) (by omega)
        have fr := fun t => R2.out.frozen t
        have c5 := (R2.out.set I dk[a + O]! (by omega)).cell (j := a + O) (by simp; omega)
        generalize Value.int .i32 (dk.setIfInBounds I dk[a + O]!)[a + O]! = v6 at c5
        have hR6 := R2.out.swp I (a + O) (by omega) (by omega)
        have hg6 := grown_swp G2.out I (a + O) (.int .i32 dk[a + O]!) (.int .i32 dk[I]!)
        have hk6 := box_swp hne cR' fR' I (a + O) (.int .i32 dk[a + O]!) (.int .i32 dk[I]!)
        generalize dk[I]! = y1 at c1 hR6 hg6 hk6
        generalize dk[a + O]! = y2 at c2 c5 hR6 hg6 hk6
        obtain ⟨J, hJ⟩ : ∃ J, a + O = J := ⟨_, rfl⟩
        rw [hJ] at c2 c5 hR6 hg6 hk6
        have HR6 := Lib.hid (RW.same hR6 (w' := ((w2.setCell ⟨blk, I, none⟩ (.int .i32 y2)).setCell ⟨blk, J, none⟩ (.int .i32 y1)).drew) rfl)
        have HG6 := Lib.hid hg6
        have HK6 := Lib.hid hk6
        have hJi : (a : Int) + (O : Int) = (J : Int) := by omega
        clear hR6 hg6 hk6 R2 G2 cR' fR'
        go_wp2_with (go_at_call 122; refine hNext.mono ?_; rintro e w' ⟨rfl, hw'⟩; obtain rfl : w2 = w' := hw'.symm)
        go_region
        generalize ((w2.setCell ⟨blk, I, none⟩ (.int .i32 y2)).setCell ⟨blk, J, none⟩ (.int .i32 y1)).drew = w3 at HR6 HG6 HK6 ⊢
        go_wp2
        go_roundw
        case measure => simp [intOf]; omega
        case rel =>
          refine ⟨t + 1, I + 1, xorNext r, swp dk I J, rfl, by omega, by omega, by rw [size_swp]; exact hds, HR6.out, HG6.out, by rw [← HN.out.1]; exact HK6.out.1, HK6.out.2, ?_⟩
          show Hid _
          rw [← HR.out, ← hI, ← hJ, bp_step a L M _ t r dk (O) ht3 (by rw [← HN.out.2, if_neg (by omega)])]
          exact rfl
    · have hle : ¬ (I : Int) ≤ (a : Int) + (L : Int) / 4 * 2 + 1 := by omega
      have H3 : t = 3 := by omega
      subst H3
      go_wp2
      go_end0
      refine ⟨rfl, ?_, G1.out⟩
      rw [← HR.out]
      exact S1.out

end Go.Proofs.YtgidpknckbgmbaaGreatDoor
