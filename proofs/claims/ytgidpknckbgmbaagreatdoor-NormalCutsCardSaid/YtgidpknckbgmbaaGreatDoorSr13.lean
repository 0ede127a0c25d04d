/- Sorting points: slices.Sort. Sorting points: the contract of slices.Sort that the reader leans on. -/
import Derived.Test.YtgidpknckbgmbaaGreatDoorSr11
import Derived.Test.YtgidpknckbgmbaaGreatDoorShelf2
import Derived.Test.YtgidpknckbgmbaaGreatDoorEnds
set_option linter.unusedSimpArgs false
set_option linter.unusedVariables false
namespace Go.Proofs.YtgidpknckbgmbaaGreatDoor
open Go.RowKit Go.Sort Go.Lib

set_option maxRecDepth 100000 in
set_option maxHeartbeats 1000000 in
theorem sort_any (blk S n cap : Nat) (d : Array Int) (w : World) (h : RW blk S d w) (hn : d.size = n) (hbig : n ≤ 1048577) :
    Calls Tryz.prog 56 #[.slice (some ⟨blk, 0, none⟩) n cap] w (SrtPost blk S (Sort.sort ltInt d) w) := by
  have H := Lib.hid h
  clear h
  have hk : bitsLen n ≤ 62 := (bitsLen_le_iff n 62).2 (by omega)
  have wr : IntKind.u64.wrap (n : Int) = n := by simp [IntKind.wrap, IntKind.bits, IntKind.signed]; omega
  have hLen : ∀ w, Calls Tryz.prog 80 #[.int .u64 (n : Int)] w fun e w' => e = .returned (.int .i64 (bitsLen n : Nat)) ∧ w' = w := fun w => by
    have h := Tryz.bits_Len (n : Int) w (by omega) (by omega)
    rwa [Int.toNat_natCast, bitLen_eq _ (by omega)] at h
  have hP := pdq_any blk S n cap hbig (n + 1) 0 n (bitsLen n) d w (by omega) H.out hn (by omega) (by omega) (by omega) (.inl rfl)
  go_enter Tryz.func56, Tryz.ntmps56
  go_wp2_with (first
    | (go_at_call 80; refine (hLen _).mono ?_; rintro e w' ⟨rfl, rfl⟩)
    | (go_at_call 79; refine hP.mono ?_; rintro e w1 ⟨rfl, p1, q1⟩))
  go_end0
  refine ⟨rfl, ?_, q1⟩
  unfold Sort.sort
  rw [hn]
  exact p1

end Go.Proofs.YtgidpknckbgmbaaGreatDoor

namespace Go.Proofs.YtgidpknckbgmbaaGreatDoor
open Go.RowKit Go.Sort Go.Lib

set_option maxRecDepth 100000 in
theorem ins_nil (w : World) : Calls Tryz.prog 97 #[.slice none 0 0, .int .i64 0, .int .i64 0] w fun e w' => e = .returned (.tuple #[]) ∧ w' = w := by
  go_enter Tryz.func97, Tryz.ntmps97
  go_wp2
  go_loopw [6] (fun v wr => v = .int .i64 1 ∧ wr = w) (fun _ _ => 0)
  case atStart => exact ⟨rfl, rfl⟩
  case round =>
    obtain ⟨rfl, rfl⟩ := hrel
    go_wp2
    go_end0
    exact ⟨rfl, rfl⟩

theorem own_rw {base : Nat} {w : World} {g cap : Nat} {l : List Int} (h : OwnRunes base w (.slice (some ⟨g, 0, none⟩) l.length cap) l) : ∃ S, RW g S l.toArray w ∧ ∀ w' (d : Array Int), d.size = l.length → RW g S d w' → OwnRunes base w' (.slice (some ⟨g, 0, none⟩) l.length cap) d.toList := by
  obtain ⟨h1, ⟨h0, h2⟩ | ⟨g', cap', cur, e, hb, hg, hc, hm, hs, ht⟩⟩ := h
  · cases h0
  · obtain ⟨rfl, rfl⟩ : g' = g ∧ cap' = cap := by simpa [eq_comm] using e
    have hl : l.length ≤ cur.size := by omega
    refine ⟨cur.size, ⟨cur, hg, rfl, by simpa using hl, fun j hj => ?_⟩, fun w' d hd hw => ?_⟩
    · have hj' : j < l.length := by simpa using hj
      have h3 : (cur.toList.take (l.length * 1))[j]? = some (.int .i32 l[j]) := by rw [ht, List.getElem?_map, List.getElem?_eq_getElem hj']; rfl
      rw [List.getElem?_take, if_pos (by omega), Array.getElem?_toList] at h3
      rw [h3, getElem!_pos l.toArray j hj]
      simp
    · obtain ⟨cur2, k1, k2, k3, k4⟩ := hw
      have hdl : d.toList.length = l.length := by simpa using hd
      refine ⟨by simp, .inr ⟨g', cap', cur2, by rw [hdl], hb, k1, by omega, hm, by omega, ?_⟩⟩
      apply List.ext_getElem?
      intro j
      rw [List.getElem?_take, List.getElem?_map, Array.getElem?_toList, Array.getElem?_toList, hdl]
      by_cases hj : j < l.length
      · rw [if_pos (by omega), k4 j (by omega), getElem!_pos d j (by omega), Array.getElem?_eq_getElem (by omega)]
        rfl
      · rw [if_neg (by omega), Array.getElem?_eq_none (by omega)]
        rfl

set_option maxRecDepth 100000 in
theorem pdq_nil (w : World) : Calls Tryz.prog 79 #[.slice none 0 0, .int .i64 0, .int .i64 0, .int .i64 0] w fun e w' => e = .returned (.tuple #[]) ∧ w' = w := by
  go_enter Tryz.func79, Tryz.ntmps79
  go_wp2
  go_loopw [1, 2, 3, 8, 9] (fun v1 v2 v3 v8 v9 wr => v1 = .int .i64 0 ∧ v2 = .int .i64 0 ∧ v3 = .int .i64 0 ∧ v8 = .bool true ∧ v9 = .bool true ∧ wr = w) (fun _ _ _ _ _ _ => 0)
  case atStart => exact ⟨rfl, rfl, rfl, rfl, rfl, rfl⟩
  case round =>
    obtain ⟨rfl, rfl, rfl, rfl, rfl, rfl⟩ := hrel
    go_wp2_with (go_at_call 97; refine (ins_nil _).mono ?_; rintro e w1 ⟨rfl, rfl⟩)
    first
      | go_end0
      | ((try simp only [Exit.inBlock, Exit.then]); refine bodyPost_ret (results_none rfl _ _ _) rfl ?_)
    exact ⟨rfl, rfl⟩

set_option maxRecDepth 100000 in
theorem sort_nil (w : World) : Calls Tryz.prog 56 #[.slice none 0 0] w fun e w' => e = .returned (.tuple #[]) ∧ w' = w := by
  have hLen : ∀ w, Calls Tryz.prog 80 #[.int .u64 (0 : Int)] w fun e w' => e = .returned (.int .i64 0) ∧ w' = w := fun w => Tryz.bits_Len 0 w (by omega) (by omega)
  go_enter Tryz.func56, Tryz.ntmps56
  go_wp2_with (first
    | (go_at_call 80; refine (hLen _).mono ?_; rintro e w' ⟨rfl, rfl⟩)
    | (go_at_call 79; refine (pdq_nil _).mono ?_; rintro e w1 ⟨rfl, rfl⟩))
  go_end0
  exact ⟨rfl, rfl⟩

theorem sort_c : SortC := by
  intro base w v l h hl hbase
  have h0 := h
  obtain ⟨h1, ⟨rfl, h2⟩ | ⟨g, cap, cur, rfl, hb, hg, hc, hm, hs, ht⟩⟩ := h0
  · obtain rfl : l = [] := List.length_eq_zero_iff.1 h2
    exact (sort_nil w).mono fun e w' ⟨he, hw⟩ => by subst hw; exact ⟨he, by simpa using h, World.grownBy.refl _ _⟩
  · obtain ⟨S, hS, hback⟩ := own_rw h
    refine (sort_any g S l.length cap l.toArray w hS (by simp) hl).mono fun e w' ⟨he, p, q⟩ => ⟨he, ?_, q⟩
    have e2 := sortInt l
    have e3 : (Sort.sort ltInt l.toArray).size = l.length := by
      have := congrArg List.length e2
      simpa using this
    have := hback w' _ e3 p
    rwa [e2] at this

end Go.Proofs.YtgidpknckbgmbaaGreatDoor
