/- props.Parse: plainly; the head of the walk. props.Parse: what the loop keeps. -/
import Derived.Test.YtgidpknckbgmbaaGreatDoorSpl
import Derived.Test.YtgidpknckbgmbaaGreatDoorEnds
import Derived.Test.YtgidpknckbgmbaaGreatDoorKnd
import Derived.Test.YtgidpknckbgmbaaGreatDoorCls3
import Derived.RangeFuncLeaves
set_option linter.unusedSimpArgs false
set_option linter.unusedVariables false
namespace Go.Proofs.YtgidpknckbgmbaaGreatDoor
open Go.RowKit
open Go.Maps (Keyed)

attribute [local go_sem] Oper.semAt_some

def blankR (r : Nat) : Bool := r == 32 || r == 9
/-- The words of a line. -/
def wordsF (l : ByteArray) : List ByteArray := Lib.goFieldsP blankR ⟨(Lib.cut (Lib.trimSuffix l.data.toList [13]) [35]).1.toArray⟩
def sClass : ByteArray := ⟨#[99, 108, 97, 115, 115]⟩
def sKind : ByteArray := ⟨#[107, 105, 110, 100]⟩
def sFold : ByteArray := ⟨#[102, 111, 108, 100]⟩
def sDecomp : ByteArray := ⟨#[100, 101, 99, 111, 109, 112]⟩
/-- What a line's words bring about. -/
def stepF (q : PP) (ln : KN) (line : Int) (ws : List ByteArray) : Except Int (PP × KN) :=
  match ws with
  | [] => .ok (q, ln)
  | x :: _ => if x = sClass then clsR q ln (clsF ws) else if x = sKind then kndR q ln (kndF ws) else if x = sFold then foldF q ln ws else if x = sDecomp then dcpF q ln line ws else .error 12
def linesF : List ByteArray → Int → PP → KN → Except (Int × Int) (PP × KN)
  | [], _, q, ln => .ok (q, ln)
  | x :: xs, line, q, ln => match stepF q ln (line + 1) (wordsF x) with
    | .error n => .error (n, line + 1)
    | .ok p => linesF xs (line + 1) p.1 p.2
def PP.none_ : PP := ⟨[], [], [], [], []⟩
def countL (s : ByteArray) : Int := (Lib.countByte s.data.toList 10 : Int) + (if s.size = 0 then 0 else if s.data.toList.getLast? = some 10 then 0 else 1)
def tooBig (s : ByteArray) : Bool := decide (1048576 < s.size) || decide (65536 < countL s)
/-- A file of properties: what is known, or the error. -/
def parseF (s : ByteArray) : Except Value PP :=
  if tooBig s then .error (errV 5)
  else match linesF (pieces s) 0 PP.none_ [] with
    | .error p => .error (faultV p)
    | .ok p => match endsF p.1 p.2 with
      | some f => .error (faultV f)
      | none => .ok p.1

set_option maxHeartbeats 400000 in
theorem split_call (n : Nat) (hn : 1 ≤ n) (s sep : ByteArray) (w : World) :
    CallsIn Fence.wide n Tryz.prog 29 #[.string s, .string sep] w fun e w' => e = .returned (.func (.func 76) #[] #[.pointer (some ⟨w.heap.size + 1, 0, none⟩), .pointer (some ⟨w.heap.size, 0, none⟩), .pointer (some ⟨w.heap.size + 2, 0, none⟩)]) ∧
      w' = ((w.alloc (.cells #[.string s] 9)).alloc (.cells #[.string sep] 9)).alloc (.cells #[.int .i64 0] 3) := by
  refine callsIn_wide.2 ?_
  have inner : ∀ w, Calls Tryz.prog 53 #[.string s, .string sep, .int .i64 0] w fun e w' => e = .returned (.func (.func 76) #[] #[.pointer (some ⟨w.heap.size + 1, 0, none⟩), .pointer (some ⟨w.heap.size, 0, none⟩), .pointer (some ⟨w.heap.size + 2, 0, none⟩)]) ∧
      w' = ((w.alloc (.cells #[.string s] 9)).alloc (.cells #[.string sep] 9)).alloc (.cells #[.int .i64 0] 3) := by
    intro w
    go_enter Tryz.func53, Tryz.ntmps53
    go_wp2
    go_ret
    exact ⟨rfl, rfl⟩
  go_enter Tryz.func29, Tryz.ntmps29
  go_wp2_with (go_at_call 53; refine (inner _).mono ?_; rintro e w' ⟨rfl, rfl⟩)
  go_ret
  exact ⟨rfl, rfl⟩

theorem blank_any (r : Nat) (w : World) (hr : r ≤ 1114111) : Calls Tryz.prog 33 #[.int .i32 r] w fun e w' => e = .returned (.bool (blankR r)) ∧ w' = w := by
  have e : blankR r = ((r : Int) == 32 || (r : Int) == 9) := by
    unfold blankR
    rw [Bool.eq_iff_iff]
    simp
    omega
  rw [e]
  by_cases h : (r : Int) = 32
  · go_enter Tryz.func33, Tryz.ntmps33
    go_wp2
    go_ret
    exact ⟨by simp [h], rfl⟩
  · go_enter Tryz.func33, Tryz.ntmps33
    go_wp2
    go_ret
    exact ⟨by simp [h], rfl⟩

end Go.Proofs.YtgidpknckbgmbaaGreatDoor

namespace Go.Proofs.YtgidpknckbgmbaaGreatDoor
open Go.RowKit

theorem Rd.turn {W W' : World} {base : Nat} {k : Blks} {q : PP} {ln : KN} {line : Int} {row : Option Nat} (h : Rd W base k q ln line) (hg : W.grownBy W' row)
    (hrow : ∀ r, row = some r → (r ≠ k.bf ∧ r ≠ k.bd ∧ r ≠ k.bt ∧ r ≠ k.bl) ∧ ∀ cs t fr, W.heap[r]? = some (.cells cs t fr) → t ≠ 93 ∧ t ≠ 21 ∧ t ≠ 57 ∧ t ≠ 54) : Rd W' base k q ln line := by
  obtain ⟨⟨vc, vk, h1, h2, h3, h4, h5⟩, h6, h7, h8, h9, h10, h11, h12, h13, h14⟩ := h
  have own : ∀ {v : Value} {rs : List Row}, OwnRows base W v rs → ∀ g, v.ownBlock = some g → some g ≠ row := fun ho g e e2 => by
    rcases ho.2 with ⟨rfl, _⟩ | ⟨g', cap, cur, rfl, _, hh, _⟩
    · cases e
    · cases e
      exact ((hrow _ e2.symm).2 _ _ _ hh).1 rfl
  have runes : ∀ g cur fr, row = some g → W.heap[g]? ≠ some (.cells cur 21 fr) := fun g cur fr e hh => ((hrow _ e).2 _ _ _ hh).2.1 rfl
  refine ⟨⟨vc, vk, h1.grown hg (fun e => ((hrow _ e.symm).2 _ _ _ h1).2.2.1 rfl), h2.grown hg (fun e => ((hrow _ e.symm).2 _ _ _ h2).2.2.2 rfl), own_grown h3 hg (own h3), own_grown h4 hg (own h4), h5⟩,
    h6.grown hg (fun e => (hrow _ e.symm).1.1 rfl) runes, h7.grown hg (fun e => (hrow _ e.symm).1.2.1 rfl) runes, MapIs.grown h8 hg (fun e => (hrow _ e.symm).1.2.2.1 rfl), MapIs.grown h9 hg (fun e => (hrow _ e.symm).1.2.2.2 rfl), h10, h11, h12, h13, h14⟩

theorem Rd.bump {W : World} {base : Nat} {k : Blks} {q : PP} {ln : KN} {line : Int} (h : Rd W base k q ln line) (hl : line < 1048577) : Rd (W.setCell ⟨k.rb, 2, none⟩ (.int .i64 (line + 1))) base k q ln (line + 1) := by
  obtain ⟨⟨vc, vk, h1, h2, h3, h4, h5⟩, h6, h7, h8, h9, h10, h11, h12, h13, h14⟩ := h
  have hg : W.grownBy (W.setCell ⟨k.rb, 2, none⟩ (.int .i64 (line + 1))) (some k.rb) := ⟨rfl, rfl, rfl, by simp, fun i _ hi => Below.heap_setCell _ _ _ _ (fun e => hi (by rw [e]))⟩
  have own : ∀ {v : Value} {rs : List Row}, OwnRows base W v rs → ∀ g, v.ownBlock = some g → some g ≠ some k.rb := fun ho g e e2 => by
    cases e2
    exact own_ne_blk ho h1 (by decide) e
  have runes : ∀ g cur fr, some k.rb = some g → W.heap[g]? ≠ some (.cells cur 21 fr) := fun g cur fr e hh => by
    cases e
    rw [show W.heap[k.rb]? = _ from h1] at hh
    cases hh
  have nm : ∀ {b : Nat}, IsMapBlk W b → some b ≠ some k.rb := fun hm e => by
    cases e
    exact hm.ne h1 rfl
  refine ⟨⟨vc, vk, h1.set_ 2 _, h2.grown hg (fun e => IsBlk.ne_ h1 h2 (by decide) (Option.some.inj e).symm), own_grown h3 hg (own h3), own_grown h4 hg (own h4), h5⟩,
    h6.grown hg (nm h6.blk) runes, h7.grown hg (nm h7.blk) runes, MapIs.grown h8 hg (nm (MapIs.blk h8)), MapIs.grown h9 hg (nm (MapIs.blk h9)), h10, h11, by omega, by omega, by omega⟩

theorem linesL_length (l : List UInt8) : (linesL l).length = l.count 10 + 1 := by
  induction l with
  | nil => rfl
  | cons x t ih =>
    rw [linesL_cons]
    by_cases h : x = 10
    · subst h; simp [ih]
    · rw [if_neg (by simpa using h), List.count_cons_of_ne h]
      cases hl : linesL t with
      | nil => exact absurd hl (linesL_ne t)
      | cons y ys => rw [hl] at ih; simpa using ih
theorem pieces_length (s : ByteArray) : (pieces s).length = Lib.countByte s.data.toList 10 + 1 := by
  unfold pieces Lib.countByte
  rw [List.length_map, linesL_length]
theorem linesL_size : ∀ (l : List UInt8), ∀ x ∈ linesL l, x.length ≤ l.length
  | [], x, hx => by simp [linesL] at hx; subst hx; simp
  | c :: t, x, hx => by
    rw [linesL_cons] at hx
    have ih := linesL_size t
    split at hx
    · rcases List.mem_cons.1 hx with rfl | hx
      · simp
      · have := ih x hx; simp; omega
    · cases hl : linesL t with
      | nil => exact absurd hl (linesL_ne t)
      | cons y ys =>
        rw [hl] at hx ih
        rcases List.mem_cons.1 hx with rfl | hx
        · have := ih y (by simp); simp; omega
        · have := ih x (by simp [hx]); simp; omega
theorem pieces_size (s : ByteArray) : ∀ x ∈ pieces s, x.size ≤ s.size := by
  intro x hx
  obtain ⟨l, hl, rfl⟩ := List.mem_map.1 hx
  have := linesL_size _ l hl
  rw [Lib.size_eq, mkB_toList, Lib.size_eq]
  exact this

end Go.Proofs.YtgidpknckbgmbaaGreatDoor
