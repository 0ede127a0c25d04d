/- Sorting points stably: slices.SortStableFunc at points. -/
import Derived.Test.YtgidpknckbgmbaaGreatDoorSt4
set_option linter.unusedSimpArgs false
set_option linter.unusedVariables false
namespace Go.Proofs.YtgidpknckbgmbaaGreatDoor
open Go.RowKit Go.Sort

/-- The first t blocks of c numbers are sorted; all blocks from place o on are. -/
def BL (k : Int → Int) (c t : Nat) (Y : List Int) : Prop := ∀ i, i < t → Srt k ((Y.drop (i * c)).take c)
def BR (k : Int → Int) (c o : Nat) (Y : List Int) : Prop := ∀ i, Srt k ((Y.drop (o + i * c)).take c)
theorem BL.set {k : Int → Int} {c t : Nat} {P Z Z' R : List Int} (h : BL k c t (P ++ (Z ++ R))) (hP : P.length = t * c) (hZ : Z'.length = Z.length) (hc : Z.length ≤ c) (hR : Z.length = c ∨ R = []) (hs : Srt k Z') : BL k c (t + 1) (P ++ (Z' ++ R)) := by
  intro i hi
  by_cases e : i = t
  · subst e
    rw [← hP, List.drop_left]
    rcases hR with e | rfl
    · rw [List.take_append_of_le_length (by omega), List.take_of_length_le (by omega)]; exact hs
    · rw [List.append_nil, List.take_of_length_le (by omega)]; exact hs
  · have h1 := h i (by omega)
    have hle : i * c + c ≤ P.length := by
      rw [hP]
      have := Nat.mul_le_mul_right c (show i + 1 ≤ t by omega)
      rwa [Nat.add_mul, Nat.one_mul] at this
    rw [List.drop_append_of_le_length (by omega), List.take_append_of_le_length (by simp; omega)] at h1 ⊢
    exact h1
theorem BR.tail {k : Int → Int} {c o : Nat} {P R : List Int} (h : BR k c o (P ++ R)) (hP : P.length = o + c ∨ P.length = o + 2 * c) (P' : List Int) (hl : P'.length = P.length) : BR k c P.length (P' ++ R) := by
  intro i
  rw [← hl, List.drop_length_add_append]
  rcases hP with e | e
  · have := h (i + 1)
    rw [show o + (i + 1) * c = P.length + i * c by rw [e, Nat.add_mul, Nat.one_mul]; omega, List.drop_length_add_append] at this
    exact this
  · have := h (i + 2)
    rw [show o + (i + 2) * c = P.length + i * c by rw [e, Nat.add_mul]; omega, List.drop_length_add_append] at this
    exact this
theorem BR.first {k : Int → Int} {c : Nat} {P Z R : List Int} (h : BR k c P.length (P ++ (Z ++ R))) (hc : Z.length ≤ c) (hR : Z.length = c ∨ R = []) : Srt k Z := by
  have := h 0
  rw [List.drop_length_add_append, Nat.zero_mul, List.drop_zero] at this
  rcases hR with e | rfl
  · rwa [List.take_append_of_le_length (by omega), List.take_of_length_le (by omega)] at this
  · rwa [List.append_nil, List.take_of_length_le (by omega)] at this
theorem BR.second {k : Int → Int} {c : Nat} {P Z1 Z2 R : List Int} (h : BR k c P.length (P ++ (Z1 ++ (Z2 ++ R)))) (h1 : Z1.length = c) (hc : Z2.length ≤ c) (hR : Z2.length = c ∨ R = []) : Srt k Z2 := by
  have h2 := h 1
  rw [List.drop_length_add_append, Nat.one_mul, ← h1, List.drop_left, h1] at h2
  rcases hR with e | rfl
  · rwa [List.take_append_of_le_length (by omega), List.take_of_length_le (by omega)] at h2
  · rwa [List.append_nil, List.take_of_length_le (by omega)] at h2
/-- All first blocks sorted, nothing behind them: all blocks are sorted. -/
theorem BL.all {k : Int → Int} {c t : Nat} {Y : List Int} (h : BL k c t Y) (hY : Y.length ≤ t * c) : BR k c 0 Y := by
  intro i
  rw [Nat.zero_add]
  by_cases hi : i < t
  · exact h i hi
  · have := Nat.mul_le_mul_right c (show t ≤ i by omega)
    rw [List.drop_of_length_le (by omega), List.take_nil]
    exact Srt.nil

/-- A row cut in three. -/
theorem cut3 (Y : List Int) (a c : Nat) (h : a + c ≤ Y.length) : ∃ P Z R, Y = P ++ (Z ++ R) ∧ P.length = a ∧ Z.length = c ∧ R.length = Y.length - (a + c) := by
  refine ⟨Y.take a, (Y.drop a).take c, (Y.drop a).drop c, by rw [List.take_append_drop, List.take_append_drop], by simp; omega, by simp; omega, by simp <;> omega⟩

def StbPost (W0 : World) (blk S : Nat) (L : List Int) (e : Ending) (w' : World) : Prop := StPost W0 blk S L e w'

set_option maxHeartbeats 2000000 in
set_option maxRecDepth 100000 in
theorem stable_any (W0 : World) (k : Int → Int) (pb blk S off n cap : Nat) (A X B : List Int) (w : World) (hC : CmpOK W0 blk pb k) (hg : W0.grownBy w (some blk)) (h : RW blk S (A ++ (X ++ B)).toArray w)
    (hA : A.length = off) (hX : X.length = n) (hbig : off + n ≤ 288230376151711743) :
    Calls Tryz.prog 81 #[.slice (some ⟨blk, off, none⟩) n cap, .int .i64 n, cmpV pb] w (StPost W0 blk S (A ++ (ssort k X ++ B))) := by
  have hI := fun (a b : Nat) (P Z R : List Int) (w1 : World) (g : W0.grownBy w1 (some blk)) (r : RW blk S ((A ++ P) ++ (Z ++ (R ++ B))).toArray w1) (e1 : P.length = a) (e2 : a + Z.length = b) (e3 : b ≤ n) =>
    insC_any W0 k pb blk S off n cap a b (A ++ P) Z (R ++ B) w1 hC g r (by rw [List.length_append]; omega) e2 e3 (by omega)
  have hM := fun (a m b : Nat) (P Z1 Z2 R : List Int) (w1 : World) (g : W0.grownBy w1 (some blk)) (r : RW blk S ((A ++ P) ++ (Z1 ++ (Z2 ++ (R ++ B)))).toArray w1) (s1 : Srt k Z1) (s2 : Srt k Z2) (e1 : P.length = a) (e2 : a + Z1.length = m) (e3 : m + Z2.length = b) (l1 : 0 < Z1.length) (l2 : 0 < Z2.length) (e4 : b ≤ n) =>
    sym_any W0 k pb blk S off n cap hC (by omega) n a m b (A ++ P) Z1 Z2 (R ++ B) w1 g r s1 s2 (by rw [List.length_append]; omega) e2 e3 l1 l2 e4 (by omega)
  simp only [cmpV] at hI hM
  have HI := Lib.hid hI
  have HM := Lib.hid hM
  have H := Lib.hid h
  have HG := Lib.hid hg
  have HX := Lib.hid hX
  clear hI hM h hg hX hC
  unfold cmpV
  go_enter Tryz.func81, Tryz.ntmps81
  go_wp2
  go_loopw [7, 8] (fun va vb wr => ∃ (a b : Nat) (Y : List Int), a ≤ n ∧ b ≤ a + 20 ∧ a + 20 ≤ b ∧ va = .int .i64 a ∧ vb = .int .i64 b ∧ Hid (∃ t, a = t * 20 ∧ BL k 20 t Y ∧ StEq k X Y ∧ Y.length = n) ∧ Hid (RW blk S (A ++ (Y ++ B)).toArray wr) ∧ Hid (W0.grownBy wr (some blk)))
    (fun va _ _ => n - (intOf va).toNat)
  case atStart => exact ⟨0, 20, X, by omega, by omega, by omega, rfl, rfl, ⟨0, by omega, fun i hi => by omega, StEq.refl _, HX.out⟩, H, HG⟩
  case round =>
    obtain ⟨a, b, Y, h1, h2, h3, rfl, rfl, hY, hR, hg⟩ := hrel
    clear H HG
    by_cases hb : b ≤ n
    · have hb' : (b : Int) ≤ n := by omega
      obtain ⟨t, ha, hB, hS, hl⟩ := hY.out
      obtain ⟨P, Z, R, e, e1, e2, e3⟩ := cut3 Y a 20 (by omega)
      subst e
      have hc := HI.out a b P Z R wr hg.out (by simpa using hR.out) e1 (by omega) hb
      have hn := hB.set (Z' := ssort k Z) (by omega) (ssort_len _ _) (by omega) (.inl e2) (ssort_srt _ _)
      have HN : Hid (∃ t, b = t * 20 ∧ BL k 20 t (P ++ (ssort k Z ++ R)) ∧ StEq k X (P ++ (ssort k Z ++ R)) ∧ (P ++ (ssort k Z ++ R)).length = n) :=
        ⟨t + 1, by omega, hn, hS.trans ((StEq.refl P).app ((ssort_st k Z).app (StEq.refl R))), by rw [← hl]; simp [ssort_len]⟩
      have HCl := Lib.hid hc
      clear hY hR ha hB hS hl e1 e2 e3 hc hn
      go_wp2_with (go_at_call 108; refine HCl.out.mono ?_; rintro e w1 ⟨rfl, hR2, hg2⟩)
      go_roundw
      case rel => exact ⟨b, b + 20, P ++ (ssort k Z ++ R), by omega, by omega, by omega, rfl, by go_num, HN, by show RW _ _ _ _; simpa using hR2, hg2⟩
      case measure => simp [intOf]; omega
    · have hb' : ¬ (b : Int) ≤ n := by omega
      obtain ⟨t, ha, hB, hS, hl⟩ := hY.out
      obtain ⟨P, Z, R, e, e1, e2, e3⟩ := cut3 Y a (n - a) (by omega)
      obtain rfl : R = [] := List.length_eq_zero_iff.1 (by omega)
      subst e
      have hc := HI.out a n P Z [] wr hg.out (by simpa using hR.out) e1 (by omega) (Nat.le_refl _)
      have hn := hB.set (Z' := ssort k Z) (by omega) (ssort_len _ _) (by omega) (.inr rfl) (ssort_srt _ _)
      have hn2 := hn.all (by simp [ssort_len]; omega)
      have HN : Hid (BR k 20 0 (P ++ (ssort k Z ++ [])) ∧ StEq k X (P ++ (ssort k Z ++ [])) ∧ (P ++ (ssort k Z ++ [])).length = n) :=
        ⟨hn2, hS.trans ((StEq.refl P).app ((ssort_st k Z).app (StEq.refl []))), by rw [← hl]; simp [ssort_len]⟩
      have HCl := Lib.hid hc
      clear hY hR ha hB hS hl e1 e2 e3 hc hn hn2
      go_wp2_with (go_at_call 108; refine HCl.out.mono ?_; rintro e w1 ⟨rfl, hR2, hg2⟩)
      have HR2 : Hid (RW blk S (A ++ ((P ++ (ssort k Z ++ [])) ++ B)).toArray w1) := by show RW _ _ _ _; simpa using hR2
      have HG2 := Lib.hid hg2
      generalize P ++ (ssort k Z ++ []) = Y0 at HN HR2
      clear hR2 hg2 HCl hg h1 h2 h3 hb hb'
      go_loopw [6] (fun vc wr => ∃ (c : Nat) (Y : List Int), 20 ≤ c ∧ c ≤ 2 * n + 20 ∧ vc = .int .i64 c ∧ Hid (BR k c 0 Y ∧ StEq k X Y ∧ Y.length = n) ∧ Hid (RW blk S (A ++ (Y ++ B)).toArray wr) ∧ Hid (W0.grownBy wr (some blk)))
        (fun vc _ => n - (intOf vc).toNat)
      case atStart => exact ⟨20, Y0, by omega, by omega, rfl, HN, HR2, HG2⟩
      case round =>
        obtain ⟨c, Y, h1, h2, rfl, hY, hR, hg⟩ := hrel
        clear HN HR2 HG2
        by_cases hcn : c < n
        · have hcz : (c : Int) < n := by omega
          go_wp2_with fail
          go_loopw [7, 8] (fun va vb w2 => ∃ (a b : Nat) (Z : List Int), a ≤ n ∧ b ≤ a + 2 * c ∧ a + 2 * c ≤ b ∧ va = .int .i64 a ∧ vb = .int .i64 b ∧ Hid (∃ t, a = t * (2 * c) ∧ BL k (2 * c) t Z ∧ BR k c a Z ∧ StEq k X Z ∧ Z.length = n) ∧ Hid (RW blk S (A ++ (Z ++ B)).toArray w2) ∧ Hid (W0.grownBy w2 (some blk)))
            (fun va _ _ => n - (intOf va).toNat)
          case atStart => exact ⟨0, 2 * c, Y, by omega, by omega, by omega, rfl, by go_num, ⟨0, by omega, fun i hi => by omega, hY.out.1, hY.out.2.1, hY.out.2.2⟩, hR, hg⟩
          case round =>
            obtain ⟨a, b, Y2, g1, g2, g3, rfl, rfl, hY2, hR2, hg2⟩ := hrel
            clear hY hR hg
            obtain ⟨m, hm1, hm2⟩ : ∃ m : Nat, (a : Int) + c = m ∧ m = a + c := ⟨a + c, by omega, rfl⟩
            by_cases hb : b ≤ n
            · have hb' : (b : Int) ≤ n := by omega
              obtain ⟨t, ha, hB, hBR, hS, hl⟩ := hY2.out
              obtain ⟨P, Z1, R0, e, e1, e2, e3⟩ := cut3 Y2 a c (by omega)
              obtain ⟨Z0, Z2, R, e', f1, f2, f3⟩ := cut3 R0 0 c (by omega)
              obtain rfl : Z0 = [] := List.length_eq_zero_iff.1 f1
              rw [List.nil_append] at e'
              subst e' e
              rw [← e1] at hBR
              have s1 := hBR.first (by omega) (.inl e2)
              have s2 := hBR.second e2 (by omega) (.inl f2)
              have hc := HM.out a m b P Z1 Z2 R wr hg2.out (by simpa using hR2.out) s1 s2 e1 (by omega) (by omega) (by omega) (by omega) hb
              have hB' : BL k (2 * c) t (P ++ ((Z1 ++ Z2) ++ R)) := by simpa using hB
              have hn := hB'.set (Z' := ssort k (Z1 ++ Z2)) (by omega) (ssort_len _ _) (by simp; omega) (.inl (by simp; omega)) (ssort_srt _ _)
              have hBR' : BR k c P.length ((P ++ (Z1 ++ Z2)) ++ R) := by simpa using hBR
              have hn2 := hBR'.tail (.inr (by simp; omega)) (P ++ ssort k (Z1 ++ Z2)) (by simp [ssort_len])
              have HN : Hid (∃ t, b = t * (2 * c) ∧ BL k (2 * c) t (P ++ (ssort k (Z1 ++ Z2) ++ R)) ∧ BR k c b (P ++ (ssort k (Z1 ++ Z2) ++ R)) ∧ StEq k X (P ++ (ssort k (Z1 ++ Z2) ++ R)) ∧ (P ++ (ssort k (Z1 ++ Z2) ++ R)).length = n) :=
                ⟨t + 1, by rw [Nat.add_mul, ← ha]; omega, hn, by
                  rw [show b = (P ++ (Z1 ++ Z2)).length by simp; omega]
                  rw [List.append_assoc] at hn2
                  exact hn2, by
                  have hS' : StEq k X (P ++ ((Z1 ++ Z2) ++ R)) := by simpa using hS
                  exact hS'.trans ((StEq.refl P).app ((ssort_st k _).app (StEq.refl R))), by rw [← hl]; simp [ssort_len]; omega⟩
              have HCl := Lib.hid hc
              clear hY2 hR2 ha hB hBR hS hl e1 e2 e3 f1 f2 f3 hc hn hn2 s1 s2 hB' hBR'
              have hm3 : m ≤ a + c ∧ a + c ≤ m := by omega
              clear hm2
              go_wp2_with (go_at_call 109; refine HCl.out.mono ?_; rintro e w1 ⟨rfl, hR2, hg2⟩)
              clear hm1
              go_roundw
              case rel => exact ⟨b, b + 2 * c, P ++ (ssort k (Z1 ++ Z2) ++ R), by omega, by omega, by omega, rfl, by go_num, HN, by show RW _ _ _ _; simpa using hR2, hg2⟩
              case measure => simp [intOf]; omega
            · have hb' : ¬ (b : Int) ≤ n := by omega
              obtain ⟨t, ha, hB, hBR, hS, hl⟩ := hY2.out
              by_cases hmn : m < n
              · obtain ⟨P, Z1, R0, e, e1, e2, e3⟩ := cut3 Y2 a c (by omega)
                obtain ⟨Z0, Z2, R, e', f1, f2, f3⟩ := cut3 R0 0 (n - m) (by omega)
                obtain rfl : Z0 = [] := List.length_eq_zero_iff.1 f1
                obtain rfl : R = [] := List.length_eq_zero_iff.1 (by omega)
                rw [List.nil_append] at e'
                subst e' e
                rw [← e1] at hBR
                have s1 := hBR.first (by omega) (.inl e2)
                have s2 := hBR.second e2 (by omega) (.inr rfl)
                have hc := HM.out a m n P Z1 Z2 [] wr hg2.out (by simpa using hR2.out) s1 s2 e1 (by omega) (by omega) (by omega) (by omega) (Nat.le_refl _)
                have hB' : BL k (2 * c) t (P ++ ((Z1 ++ Z2) ++ [])) := by simpa using hB
                have hn := hB'.set (Z' := ssort k (Z1 ++ Z2)) (by omega) (ssort_len _ _) (by simp; omega) (.inr rfl) (ssort_srt _ _)
                have hn2 := hn.all (by rw [Nat.add_mul, ← ha]; simp [ssort_len]; omega)
                have HN : Hid (BR k (2 * c) 0 (P ++ (ssort k (Z1 ++ Z2) ++ [])) ∧ StEq k X (P ++ (ssort k (Z1 ++ Z2) ++ [])) ∧ (P ++ (ssort k (Z1 ++ Z2) ++ [])).length = n) :=
                  ⟨hn2, by
                    have hS' : StEq k X (P ++ ((Z1 ++ Z2) ++ [])) := by simpa using hS
                    exact hS'.trans ((StEq.refl P).app ((ssort_st k _).app (StEq.refl []))), by rw [← hl]; simp [ssort_len]⟩
                have HCl := Lib.hid hc
                have hm3 : m ≤ a + c ∧ a + c ≤ m := by omega
                clear hY2 hR2 ha hB hBR hS hl e1 e2 e3 f1 f2 f3 hc hn hn2 s1 s2 hB' hm2
                go_wp2_with (go_at_call 109; refine HCl.out.mono ?_; rintro e w1 ⟨rfl, hR2, hg2⟩)
                clear hm1
                go_roundw
                case rel => exact ⟨2 * c, P ++ (ssort k (Z1 ++ Z2) ++ []), by omega, by omega, by first | go_num | (congr 1; omega), HN, by show RW _ _ _ _; simpa using hR2, hg2⟩
                case measure => simp [intOf]; omega
              · obtain ⟨P, Z1, R0, e, e1, e2, e3⟩ := cut3 Y2 a (n - a) (by omega)
                obtain rfl : R0 = [] := List.length_eq_zero_iff.1 (by omega)
                subst e
                rw [← e1] at hBR
                have s1 := hBR.first (by omega) (.inr rfl)
                have hn := hB.set (Z' := Z1) (by omega) rfl (by omega) (.inr rfl) s1
                have hn2 := hn.all (by rw [Nat.add_mul, ← ha]; simp; omega)
                have HN : Hid (BR k (2 * c) 0 (P ++ (Z1 ++ [])) ∧ StEq k X (P ++ (Z1 ++ [])) ∧ (P ++ (Z1 ++ [])).length = n) := ⟨hn2, hS, hl⟩
                have hm3 : m ≤ a + c ∧ a + c ≤ m := by omega
                have hmn' : ¬ (m : Int) < n := by omega
                clear hY2 ha hB hBR hS hl e1 e2 e3 hn hn2 s1 hm2
                go_wp2
                clear hm1
                go_roundw
                case rel => exact ⟨2 * c, P ++ (Z1 ++ []), by omega, by omega, by first | go_num | (congr 1; omega), HN, hR2, hg2⟩
                case measure => simp [intOf]; omega
        · have hfin : Y = ssort k X := by
            obtain ⟨q1, q2, q3⟩ := hY.out
            refine ssort_is ?_ q2
            have := q1 0
            rwa [Nat.zero_mul, List.drop_zero, List.take_of_length_le (by omega)] at this
          have HF := Lib.hid hfin
          clear hfin
          go_wp2
          go_end0
          exact ⟨rfl, by rw [← HF.out]; exact hR.out, hg.out⟩

theorem stable_nil (pb : Nat) (w : World) : Calls Tryz.prog 81 #[.slice none 0 0, .int .i64 (0 : Nat), cmpV pb] w fun e w' => e = .returned (.tuple #[]) ∧ w' = w := by
  have hi : ∀ w1, Calls Tryz.prog 108 #[.slice none 0 0, .int .i64 0, .int .i64 0, cmpV pb] w1 fun e w' => e = .returned (.tuple #[]) ∧ w' = w1 := by
    intro w1
    go_enter Tryz.func108, Tryz.ntmps108
    go_wp2
    go_loopw [8] (fun v wr => v = .int .i64 1 ∧ wr = w1) (fun _ _ => 0)
    case atStart => exact ⟨rfl, rfl⟩
    case round =>
      obtain ⟨rfl, rfl⟩ := hrel
      go_wp2
      go_end0
      exact ⟨rfl, rfl⟩
  have HI := Lib.hid hi
  clear hi
  go_enter Tryz.func81, Tryz.ntmps81
  go_wp2
  go_loopw [7, 8] (fun va vb wr => va = .int .i64 0 ∧ vb = .int .i64 20 ∧ wr = w) (fun _ _ _ => 0)
  case atStart => exact ⟨rfl, rfl, rfl⟩
  case round =>
    obtain ⟨rfl, rfl, rfl⟩ := hrel
    go_wp2_with (go_at_call 108; refine (HI.out _).mono ?_; rintro e w1 ⟨rfl, rfl⟩)
    go_loopw [6] (fun vc w2 => vc = .int .i64 20 ∧ w2 = w1) (fun _ _ => 0)
    case atStart => exact ⟨rfl, rfl⟩
    case round =>
      obtain ⟨rfl, rfl⟩ := hrel
      go_wp2
      go_end0
      exact ⟨rfl, rfl⟩

/-- slices.SortStableFunc at a range of points in memory. -/
theorem sortStable_any (W0 : World) (k : Int → Int) (pb blk S off n cap : Nat) (A X B : List Int) (w : World) (hC : CmpOK W0 blk pb k) (hg : W0.grownBy w (some blk)) (h : RW blk S (A ++ (X ++ B)).toArray w)
    (hA : A.length = off) (hX : X.length = n) (hbig : off + n ≤ 288230376151711743) :
    Calls Tryz.prog 59 #[.slice (some ⟨blk, off, none⟩) n cap, cmpV pb] w (StPost W0 blk S (A ++ (ssort k X ++ B))) := by
  have hc := stable_any W0 k pb blk S off n cap A X B w hC hg h hA hX hbig
  unfold cmpV at hc ⊢
  have HCl := Lib.hid hc
  clear hc hC hg h hA hX
  go_enter Tryz.func59, Tryz.ntmps59
  go_wp2_with (go_at_call 81; refine HCl.out.mono ?_; rintro e w1 ⟨rfl, hR2, hg2⟩)
  go_end0
  exact ⟨rfl, hR2, hg2⟩
theorem sortStable_nil (pb : Nat) (w : World) : Calls Tryz.prog 59 #[.slice none 0 0, cmpV pb] w fun e w' => e = .returned (.tuple #[]) ∧ w' = w := by
  have hc := stable_nil pb w
  unfold cmpV at hc ⊢
  have HCl := Lib.hid hc
  clear hc
  go_enter Tryz.func59, Tryz.ntmps59
  go_wp2_with (go_at_call 81; refine HCl.out.mono ?_; rintro e w1 ⟨rfl, rfl⟩)
  go_end0
  exact ⟨rfl, rfl⟩

end Go.Proofs.YtgidpknckbgmbaaGreatDoor
