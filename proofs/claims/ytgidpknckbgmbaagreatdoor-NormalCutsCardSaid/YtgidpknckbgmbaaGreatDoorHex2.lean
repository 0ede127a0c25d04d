/- The small tests of points: syllable, jamo, character: each says what its Lean twin says. strconv.ParseInt(s, 16, 32) of four to six hexadecimal digits: their number, and no error. strconv.ParseInt(s, 16, 32) of four to six hexadecimal digits, its two wrappers. -/
import Derived.Test.YtgidpknckbgmbaaGreatDoorProg
import Derived.WalkKit
import Derived.WalkSpells
import Derived.WalkLawsBesides
import Derived.Deep.Draws
import Derived.Lib.Strings
import Derived.Lib.Walk
import Derived.Lib.ConvBytes
import Derived.Lib.AtoiAllMem
import Derived.Lib.Hide
import Derived.Laws.Strings3
import Derived.Laws.Closers25
import Derived.Laws.Closers25b
import Derived.BigCall
import Derived.BigGuard
import Derived.Shelf.Strconv.Lower
set_option linter.unusedSimpArgs false
set_option linter.unusedVariables false
namespace Go.Proofs.YtgidpknckbgmbaaGreatDoor
open Go.RowKit

def isSyl (r : Int) : Bool := decide (44032 ≤ r) && decide (r < 55204)
def isJamo (r : Int) : Bool := (decide (4352 ≤ r) && decide (r < 4371)) || (decide (4449 ≤ r) && decide (r < 4470)) || (decide (4519 < r) && decide (r < 4547))
def isChar (r : Int) : Bool := decide (0 ≤ r) && decide (r ≤ 1114111) && (decide (r < 55296) || decide (57343 < r))

theorem below_drewN {B : Nat} {a w : World} (h : Below B a w) (n : Nat) : Below B a (w.drewN n) := ⟨h.os, h.tape, h.output, h.size, h.block⟩
theorem bt {a b c : World} (h : Below a.heap.size a b) (k : Below b.heap.size b c) : Below a.heap.size a c := h.trans (k.mono h.size)

theorem ret_bool {a b : Bool} (h : a = b) : Ending.returned (.bool a) = .returned (.bool b) := by rw [h]
theorem ret_int {k : IntKind} {a b : Int} (h : a = b) : Ending.returned (.int k a) = .returned (.int k b) := by rw [h]

set_option maxHeartbeats 400000 in
theorem syllable_any (r : Int) (w : World) :
    Calls Tryz.prog 51 #[.int .i32 r] w fun e w' => e = .returned (.bool (isSyl r)) ∧ w = w' := by
  go_enter Tryz.func51, Tryz.ntmps51
  go_wp2
  all_goals
    go_ret
    exact ⟨ret_bool (by unfold isSyl; rw [Bool.eq_iff_iff]; simp; omega), rfl⟩

set_option maxHeartbeats 1000000 in
theorem jamo_any (r : Int) (w : World) :
    Calls Tryz.prog 52 #[.int .i32 r] w fun e w' => e = .returned (.bool (isJamo r)) ∧ w = w' := by
  go_enter Tryz.func52, Tryz.ntmps52
  go_wp2
  all_goals
    go_ret
    exact ⟨ret_bool (by unfold isJamo; rw [Bool.eq_iff_iff]; simp; omega), rfl⟩

set_option maxHeartbeats 1000000 in
theorem character_any (r : Int) (w : World) :
    Calls Tryz.prog 60 #[.int .i32 r] w fun e w' => e = .returned (.bool (isChar r)) ∧ w = w' := by
  go_enter Tryz.func60, Tryz.ntmps60
  go_wp2
  all_goals
    go_ret
    exact ⟨ret_bool (by unfold isChar; rw [Bool.eq_iff_iff]; simp; omega), rfl⟩

end Go.Proofs.YtgidpknckbgmbaaGreatDoor

namespace Go.Proofs.YtgidpknckbgmbaaGreatDoor
open Go.RowKit

/-- The value of a hexadecimal digit. -/
def hexd (c : UInt8) : Option Nat :=
  if 48 ≤ c.toNat ∧ c.toNat ≤ 57 then some (c.toNat - 48) else if 65 ≤ c.toNat ∧ c.toNat ≤ 70 then some (c.toNat - 55) else if 97 ≤ c.toNat ∧ c.toNat ≤ 102 then some (c.toNat - 87) else none
/-- The number that digits tell, behind what is told already. -/
def hexv : Nat → List UInt8 → Nat
  | a, [] => a
  | a, c :: r => hexv (a * 16 + (hexd c).getD 0) r
theorem hexd_lt {c : UInt8} {d : Nat} (h : hexd c = some d) : d < 16 := by
  unfold hexd at h
  split at h
  · cases h; omega
  · split at h
    · cases h; omega
    · split at h
      · cases h; omega
      · cases h
theorem hexv_lt (l : List UInt8) (h : ∀ c ∈ l, (hexd c).isSome) : ∀ a, hexv a l < (a + 1) * 16 ^ l.length := by
  induction l with
  | nil => intro a; simp [hexv]
  | cons c r ih =>
    intro a
    obtain ⟨d, hd⟩ := Option.isSome_iff_exists.1 (h c (by simp))
    have := hexd_lt hd
    have h1 := ih (fun x hx => h x (by simp [hx])) (a * 16 + d)
    simp only [hexv, hd, Option.getD_some, List.length_cons, Nat.pow_succ]
    have h2 : (a * 16 + d + 1) * 16 ^ r.length ≤ ((a + 1) * 16) * 16 ^ r.length := Nat.mul_le_mul_right _ (by omega)
    have h3 : (a + 1) * (16 ^ r.length * 16) = ((a + 1) * 16) * 16 ^ r.length := by rw [Nat.mul_assoc, Nat.mul_comm 16]
    omega

theorem lower_dig (c : Nat) (h : c < 256) : (65 ≤ c ∧ c ≤ 70 → bits .or .u8 (c : Int) 32 = (c : Int) + 32) ∧ (97 ≤ c ∧ c ≤ 102 → bits .or .u8 (c : Int) 32 = (c : Int)) := by
  have : ∀ c : Fin 256, (65 ≤ c.val ∧ c.val ≤ 70 → bits .or .u8 (c.val : Int) 32 = (c.val : Int) + 32) ∧ (97 ≤ c.val ∧ c.val ≤ 102 → bits .or .u8 (c.val : Int) 32 = (c.val : Int)) := by decide +kernel
  exact this ⟨c, h⟩

set_option maxHeartbeats 4000000 in
set_option maxRecDepth 100000 in
theorem lower_any (c : Int) (w : World) : Calls Tryz.prog 128 #[.int .u8 c] w fun e w' => e = .returned (.int .u8 (bits .or .u8 c 32)) ∧ w = w' := by
  go_enter Tryz.func128, Tryz.ntmps128
  go_wp2
  go_ret
  exact ⟨rfl, rfl⟩

set_option maxHeartbeats 4000000 in
set_option maxRecDepth 100000 in
theorem parseUint16 (t : ByteArray) (hne : t.size ≠ 0) (hmax : t.size ≤ 6) (hx : ∀ c ∈ t.data.toList, (hexd c).isSome) (w : World) :
    Calls Tryz.prog 116 #[.string t, .int .i64 16, .int .i64 32] w fun e w' => e = .returned (.tuple #[.int .u64 (hexv 0 t.data.toList), .nilIface]) ∧ Below w.heap.size w w' := by
  have hemp : t.toList.isEmpty = false := by
    rw [← decide_eq_emptyBytes]
    exact decide_eq_false (fun h => hne (by rw [h]; rfl))
  have hcv := Lib.run_convert_string_bytes (P := Tryz.prog) w 9 108 5 t (u := .string) Tryz.underlying9 Tryz.underlying108 Tryz.underlying5
  have hB : ∀ j, j < t.size → (Lib.bytesWorld w 5 t).cell? ⟨w.heap.size, j, none⟩ = some (.int .u8 (t.data.toList.getD j 0).toNat) := fun j hj => Lib.bytesWorld_cell w 5 t j hj
  have hbel : Below w.heap.size w (Lib.bytesWorld w 5 t) := ⟨rfl, rfl, rfl, by rw [Lib.bytesWorld_size]; omega, fun k hk => Lib.bytesWorld_at_old w _ t k hk⟩
  obtain ⟨W1, hW1⟩ : ∃ W1, W1 = Lib.bytesWorld w 5 t := ⟨_, rfl⟩
  rw [← hW1] at hcv hB hbel
  clear hW1
  obtain ⟨bs, hL⟩ : ∃ bs, bs = t.data.toList := ⟨_, rfl⟩
  have hLn : bs.length = t.size := by rw [hL, Lib.size_eq]
  rw [← hL] at hB hx ⊢
  clear hL
  go_enter Tryz.func116, Tryz.ntmps116
  go_wp2
  go_loop [12, 13, 101] (fun vu vn vi => ∃ (k : Nat) (a : Int), vu = .bool false ∧ vn = .int .u64 a ∧ vi = .int .i64 k ∧ k ≤ t.size ∧ 0 ≤ a ∧ a < 16777216 ∧ Hid (∃ acc : Nat, a = (acc : Int) ∧ acc < 16 ^ k ∧ hexv 0 bs = hexv acc (bs.drop k)))
    (fun _ _ vi => t.size - (intOf vi).toNat)
  case atStart => exact ⟨0, 0, rfl, rfl, rfl, by omega, by omega, by omega, 0, rfl, by simp, rfl⟩
  case round =>
    obtain ⟨k, a, rfl, rfl, rfl, hk, h0, h1, hh⟩ := hrel
    by_cases hkn : k < t.size
    · have hc := hB k hkn
      obtain ⟨c, hcx⟩ : ∃ c, bs[k]? = some c := ⟨_, List.getElem?_eq_getElem (by omega)⟩
      have hget : bs.getD k 0 = c := by simp [List.getD, hcx]
      rw [hget] at hc
      obtain ⟨d, hd⟩ := Option.isSome_iff_exists.1 (hx c (List.mem_of_getElem? hcx))
      have hd16 := hexd_lt hd
      have HN : 0 ≤ a * 16 + (d : Int) ∧ a * 16 + (d : Int) < 16777216 ∧ Hid (∃ acc : Nat, a * 16 + (d : Int) = (acc : Int) ∧ acc < 16 ^ (k + 1) ∧ hexv 0 bs = hexv acc (bs.drop (k + 1))) := by
        obtain ⟨acc, rfl, h3, h4⟩ := hh.out
        have h5 : acc * 16 + d < 16 ^ (k + 1) := by rw [Nat.pow_succ]; omega
        have h6 : 16 ^ (k + 1) ≤ 16 ^ 6 := Nat.pow_le_pow_right (by omega) (by omega)
        refine ⟨by omega, by omega, acc * 16 + d, by omega, h5, ?_⟩
        rw [h4]
        have hlt : k < bs.length := by omega
        have h7 : bs[k] = c := by rw [List.getElem?_eq_getElem hlt] at hcx; exact Option.some.inj hcx
        rw [List.drop_eq_getElem_cons hlt, h7]
        simp [hexv, hd]
      obtain ⟨hn0, hn1, HN⟩ := HN
      have hc256 : c.toNat < 256 := c.toNat_lt
      obtain ⟨hl1, hl2⟩ := lower_dig c.toNat hc256
      clear hB hcx hget hh hx
      have hcases : ∃ C : Int, (c.toNat : Int) = C ∧ ((48 ≤ C ∧ C ≤ 57 ∧ (d : Int) = C - 48) ∨ (65 ≤ C ∧ C ≤ 70 ∧ (d : Int) = C + 32 - 97 + 10 ∧ bits .or .u8 C 32 = C + 32) ∨ (97 ≤ C ∧ C ≤ 102 ∧ (d : Int) = C - 97 + 10 ∧ bits .or .u8 C 32 = C)) := by
        refine ⟨_, rfl, ?_⟩
        unfold hexd at hd
        split at hd
        · cases hd; left; omega
        · split at hd
          · rename_i h1 h2; cases hd; right; left; refine ⟨by omega, by omega, by omega, hl1 h2⟩
          · split at hd
            · rename_i h1 h2 h3; cases hd; right; right; refine ⟨by omega, by omega, by omega, hl2 h3⟩
            · cases hd
      obtain ⟨C, hC, hcases⟩ := hcases
      rw [hC] at hc
      clear hd hl1 hl2 hc256 hC
      obtain ⟨D, hD⟩ : ∃ D : Int, (d : Int) = D := ⟨_, rfl⟩
      rw [hD] at hn0 hn1 HN hcases
      have hD0 : 0 ≤ D := by omega
      have hD1 : D < 16 := by omega
      clear hD hd16
      rcases hcases with ⟨c1, c2, rfl⟩ | ⟨c1, c2, rfl, c3⟩ | ⟨c1, c2, rfl, c3⟩
      · go_wp2
        refine ⟨⟨k + 1, a * 16 + (C - 48), rfl, (by first | rfl | (congr 1; omega)), (by first | rfl | (congr 1; omega)), by omega, by omega, by omega, HN⟩, by simp [intOf]; omega⟩
      · go_wp2_with (go_at_call 128; refine (lower_any _ _).mono ?_; rintro e w' ⟨rfl, rfl⟩)
        refine ⟨⟨k + 1, a * 16 + (C + 32 - 97 + 10), rfl, (by first | rfl | (congr 1; omega)), (by first | rfl | (congr 1; omega)), by omega, by omega, by omega, HN⟩, by simp [intOf]; omega⟩
      · go_wp2_with (go_at_call 128; refine (lower_any _ _).mono ?_; rintro e w' ⟨rfl, rfl⟩)
        refine ⟨⟨k + 1, a * 16 + (C - 97 + 10), rfl, (by first | rfl | (congr 1; omega)), (by first | rfl | (congr 1; omega)), by omega, by omega, by omega, HN⟩, by simp [intOf]; omega⟩
    · obtain rfl : k = t.size := by omega
      clear hB hx
      go_wp2
      go_ret2
      obtain ⟨acc, rfl, h3, h4⟩ := hh.out
      rw [h4, List.drop_of_length_le (by omega)]
      exact ⟨rfl, hbel⟩

end Go.Proofs.YtgidpknckbgmbaaGreatDoor

namespace Go.Proofs.YtgidpknckbgmbaaGreatDoor
open Go.RowKit

set_option maxHeartbeats 400000 in
set_option maxRecDepth 100000 in
theorem parseInt16_inner (t : ByteArray) (hne : 4 ≤ t.size) (hmax : t.size ≤ 6) (hx : ∀ c ∈ t.data.toList, (hexd c).isSome) (w : World) :
    Calls Tryz.prog 91 #[.string t, .int .i64 16, .int .i64 32] w fun e w' => e = .returned (.tuple #[.int .i64 (hexv 0 t.data.toList), .nilIface]) ∧ Below w.heap.size w w' := by
  have hemp : t.toList.isEmpty = false := by
    rw [← decide_eq_emptyBytes]
    exact decide_eq_false (fun h => by rw [h] at hne; exact absurd hne (by decide))
  have hlen : t.data.toList.length = t.size := by rw [Lib.size_eq]
  have hb := hexv_lt t.data.toList hx 0
  have hpow : 16 ^ t.data.toList.length ≤ 16 ^ 6 := Nat.pow_le_pow_right (by omega) (by omega)
  have hv1 : (hexv 0 t.data.toList : Int) < 16777216 := by omega
  have hP := parseUint16 t (by omega) hmax hx w
  obtain ⟨V, hV⟩ : ∃ V : Int, (hexv 0 t.data.toList : Int) = V := ⟨_, rfl⟩
  have hv0 : 0 ≤ V := by omega
  rw [hV] at hP hv1 ⊢
  have h40 : 0 < t.size := by omega
  have hcd : (hexd t[0]).isSome := hx _ (by rw [show t[0] = t.data.toList[0]'(by omega) from rfl]; exact List.getElem_mem _)
  have c1 : ((t[0].toNat : Int) == 43) = false := by
    rw [beq_eq_false_iff_ne]; intro h; unfold hexd at hcd; rw [if_neg (by omega), if_neg (by omega), if_neg (by omega)] at hcd; simp at hcd
  have c2 : ((t[0].toNat : Int) == 45) = false := by
    rw [beq_eq_false_iff_ne]; intro h; unfold hexd at hcd; rw [if_neg (by omega), if_neg (by omega), if_neg (by omega)] at hcd; simp at hcd
  clear hV hb hpow hlen hx hcd
  go_enter Tryz.func91, Tryz.ntmps91
  go_wp2_with (go_at_call 116; refine hP.mono ?_; rintro e w' ⟨rfl, hb⟩)
  go_ret2
  exact ⟨rfl, hb⟩

set_option maxHeartbeats 400000 in
set_option maxRecDepth 100000 in
theorem parseInt16 (t : ByteArray) (hne : 4 ≤ t.size) (hmax : t.size ≤ 6) (hx : ∀ c ∈ t.data.toList, (hexd c).isSome) (w : World) :
    Calls Tryz.prog 113 #[.string t, .int .i64 16, .int .i64 32] w fun e w' => e = .returned (.tuple #[.int .i64 (hexv 0 t.data.toList), .nilIface]) ∧ Below w.heap.size w w' := by
  have hP := parseInt16_inner t hne hmax hx w
  clear hx
  go_enter Tryz.func113, Tryz.ntmps113
  go_wp2_with (go_at_call 91; refine hP.mono ?_; rintro e w' ⟨rfl, hb⟩)
  go_ret2
  exact ⟨rfl, hb⟩

end Go.Proofs.YtgidpknckbgmbaaGreatDoor
