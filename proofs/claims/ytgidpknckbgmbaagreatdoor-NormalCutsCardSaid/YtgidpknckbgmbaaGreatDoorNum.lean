/- props.number: what hexadecimal digits say. -/
import Derived.Test.YtgidpknckbgmbaaGreatDoorHex2
import Derived.Test.YtgidpknckbgmbaaGreatDoorShelf
import Derived.Lib.SlTrimSet
import Derived.Deep.QuietTactic
import Derived.BigQuiet
set_option linter.unusedSimpArgs false
set_option linter.unusedVariables false
namespace Go.Proofs.YtgidpknckbgmbaaGreatDoor
open Go.RowKit

def hexDigits : List UInt8 := [48, 49, 50, 51, 52, 53, 54, 55, 56, 57, 97, 98, 99, 100, 101, 102, 65, 66, 67, 68, 69, 70]
theorem hexDigits_contains (c : UInt8) : hexDigits.contains c = (hexd c).isSome := by
  have : ∀ c : Fin 256, hexDigits.contains (UInt8.ofNat c.val) = (hexd (UInt8.ofNat c.val)).isSome := by decide +kernel
  have h := this ⟨c.toNat, c.toNat_lt⟩
  simpa using h

theorem dropWhile_nil {α : Type} (p : α → Bool) (l : List α) : l.dropWhile p = [] ↔ ∀ c ∈ l, p c = true := by
  induction l with
  | nil => simp
  | cons a r ih =>
    by_cases h : p a = true
    · simp [h, ih]
    · simp [h]
theorem dropWhile_sub {α : Type} (p : α → Bool) (l : List α) (h : ∃ c ∈ l, p c = false) : ∃ c ∈ l.dropWhile p, p c = false := by
  induction l with
  | nil => obtain ⟨c, hc, _⟩ := h; simp at hc
  | cons a r ih =>
    by_cases ha : p a = true
    · simp only [List.dropWhile_cons, ha, if_true]
      obtain ⟨c, hc, hp⟩ := h
      rcases List.mem_cons.1 hc with rfl | hc
      · rw [ha] at hp; cases hp
      · exact ih ⟨c, hc, hp⟩
    · simp only [List.dropWhile_cons, ha]; exact h
theorem trimS_nil (l cs : List UInt8) : Lib.trimS l cs = [] ↔ ∀ c ∈ l, cs.contains c = true := by
  unfold Lib.trimS Lib.trimLeftS Lib.trimRightS
  constructor
  · intro h c hc
    rcases hcc : cs.contains c with _ | _
    · exfalso
      obtain ⟨d, hd, hp⟩ := dropWhile_sub (cs.contains ·) l.reverse ⟨c, List.mem_reverse.2 hc, hcc⟩
      have := (dropWhile_nil (cs.contains ·) _).1 h d (List.mem_reverse.2 hd)
      have hp' : cs.contains d = false := hp
      have this' : cs.contains d = true := this
      rw [hp'] at this'
      cases this'
    · rfl
  · intro h
    have : l.reverse.dropWhile (cs.contains ·) = [] := (dropWhile_nil _ _).2 (fun c hc => h c (List.mem_reverse.1 hc))
    rw [this]
    rfl

/-- What hexadecimal digits say; none: they are none, or too few or too many. -/
def numF (l : List UInt8) : Option Int := if 4 ≤ l.length ∧ l.length ≤ 6 ∧ (∀ c ∈ l, (hexd c).isSome = true) then some ((hexv 0 l : Nat) : Int) else none

theorem trim_hex (t : ByteArray) (w : World) (hs : t.size ≤ 9223372036854775807) :
    Calls Tryz.prog 47 #[.string t, .string ⟨#[48, 49, 50, 51, 52, 53, 54, 55, 56, 57, 97, 98, 99, 100, 101, 102, 65, 66, 67, 68, 69, 70]⟩] w fun e w' =>
      e = .returned (.string ⟨(Lib.trimS t.data.toList hexDigits).toArray⟩) ∧ Below w.heap.size w w' :=
  Any.strings_Trim_laid Tryz.laysTrim (by kernel_rfl) t ⟨#[48, 49, 50, 51, 52, 53, 54, 55, 56, 57, 97, 98, 99, 100, 101, 102, 65, 66, 67, 68, 69, 70]⟩ w hs (by decide) (ascii_of_all (by decide))

set_option maxHeartbeats 400000 in
set_option maxRecDepth 100000 in
theorem number_any (t : ByteArray) (w : World) (hs : t.size ≤ 1048576) :
    Calls Tryz.prog 87 #[.string t] w fun e w' => e = .returned (.tuple #[.int .i32 ((numF t.data.toList).getD 0), .bool (numF t.data.toList).isSome]) ∧ Below w.heap.size w w' := by
  have hlen : t.data.toList.length = t.size := by rw [Lib.size_eq]
  by_cases h1 : t.size < 4
  · have hn : numF t.data.toList = none := by unfold numF; rw [if_neg (by omega)]
    rw [hn]
    clear hlen hn
    go_enter Tryz.func87, Tryz.ntmps87
    go_wp2
    go_ret2
    exact ⟨rfl, Below.refl _ _⟩
  · by_cases h2 : 6 < t.size
    · have hn : numF t.data.toList = none := by unfold numF; rw [if_neg (by omega)]
      rw [hn]
      have h1' : 4 ≤ t.size := by omega
      clear hlen hn h1
      go_enter Tryz.func87, Tryz.ntmps87
      go_wp2
      go_ret2
      exact ⟨rfl, Below.refl _ _⟩
    · have h1' : 4 ≤ t.size := by omega
      have h2' : t.size ≤ 6 := by omega
      have hT := trim_hex t w (by omega)
      by_cases h3 : ∀ c ∈ t.data.toList, (hexd c).isSome = true
      · have hn : numF t.data.toList = some ((hexv 0 t.data.toList : Nat) : Int) := by unfold numF; rw [if_pos ⟨by omega, by omega, h3⟩]
        have htr : Lib.trimS t.data.toList hexDigits = [] := (trimS_nil _ _).2 (fun c hc => by rw [hexDigits_contains]; exact h3 c hc)
        rw [htr] at hT
        rw [hn]
        have hP := fun w => parseInt16 t h1' h2' h3 w
        have hb := hexv_lt t.data.toList h3 0
        have hpow : 16 ^ t.data.toList.length ≤ 16 ^ 6 := Nat.pow_le_pow_right (by omega) (by omega)
        obtain ⟨V, hV⟩ : ∃ V : Int, (hexv 0 t.data.toList : Int) = V := ⟨_, rfl⟩
        have hv0 : 0 ≤ V := by omega
        have hv1 : V < 16777216 := by omega
        rw [hV]
        rw [hV] at hP
        have HP := Lib.hid hP
        clear hlen hn h1 h2 h3 htr hb hpow hV hP
        go_enter Tryz.func87, Tryz.ntmps87
        go_wp2_with (first
          | (go_at_call 47; refine hT.mono ?_; rintro e w1 ⟨rfl, hb1⟩)
          | (go_at_call 113; refine (HP.out _).mono ?_; rintro e w2 ⟨rfl, hb2⟩))
        go_quiet (fail)
        go_wp2
        go_ret2
        exact ⟨rfl, below_drewN (bt hb1 hb2) nq⟩
      · have hn : numF t.data.toList = none := by unfold numF; rw [if_neg (fun h => h3 h.2.2)]
        have htr : (Lib.trimS t.data.toList hexDigits).isEmpty = false := by
          cases h : Lib.trimS t.data.toList hexDigits with
          | nil => exact absurd (fun c hc => by rw [← hexDigits_contains]; exact (trimS_nil _ _).1 h c hc) h3
          | cons a r => rfl
        rw [hn]
        generalize Lib.trimS t.data.toList hexDigits = L at hT htr
        clear hlen hn h1 h2 h3
        go_enter Tryz.func87, Tryz.ntmps87
        go_wp2_with (first
          | (go_at_call 47; refine hT.mono ?_; rintro e w1 ⟨rfl, hb1⟩))
        go_ret2
        exact ⟨rfl, hb1⟩

end Go.Proofs.YtgidpknckbgmbaaGreatDoor
