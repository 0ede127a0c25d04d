/- slices.Backward over a slice of rows (three numbers each): its contract as an iterator. props.said: what the last row that has a point says of it. -/
import Derived.RangeFuncBox
import Derived.RangeFuncLeaves
import Derived.Shelf.Abstract
import Derived.WalkKit
import Derived.OwnWalkIn
import Derived.TacticsInMore
import Derived.LoopNIn
import Derived.LoopIn
import Derived.Test.YtgidpknckbgmbaaGreatDoorHex2
import Derived.Lib.Hide
import Derived.RangeFuncNested
import Derived.RangeFuncBound
import Derived.RangeFuncCalls
import Derived.Shelf.RegionOpen
set_option linter.unusedSimpArgs false
set_option linter.unusedVariables false
namespace Go.Proofs.YtgidpknckbgmbaaGreatDoor
open Go.RowKit Go.Shelf

attribute [local go_sem] Oper.semAt_some

abbrev Row := Int × Int × Int
/-- WHAT HAS COME WHEN k ROUNDS ARE OVER: f 0, .., f (k - 1). -/
def upto {α : Type} (f : Nat → α) (k : Nat) : List α := (List.range k).map f
theorem upto_succ {α : Type} (f : Nat → α) (k : Nat) : upto f (k + 1) = upto f k ++ [f k] := by simp [upto, List.range_succ]
theorem upto_length {α : Type} (f : Nat → α) (k : Nat) : (upto f k).length = k := by simp [upto]

/-- THE SLICE VALUE sv HOLDS the rows rs, in a block below n₀; or it is nil and there are none. -/
def RowsAt (n₀ : Nat) (W : World) (sv : Value) (rs : List Row) : Prop :=
  (sv = .slice none 0 0 ∧ rs = []) ∨ ∃ b cap, sv = .slice (some ⟨b, 0, none⟩) rs.length cap ∧ b < n₀ ∧ ∀ j x, rs[j]? = some x → W.cell? ⟨b, j * 3, none⟩ = some (.int .i32 x.1) ∧ W.cell? ⟨b, j * 3 + 1, none⟩ = some (.int .i32 x.2.1) ∧ W.cell? ⟨b, j * 3 + 2, none⟩ = some (.int .i64 x.2.2)
theorem RowsAt.below {n₀ : Nat} {A B : World} (h : Below n₀ A B) {sv : Value} {zs : List Row} : RowsAt n₀ A sv zs → RowsAt n₀ B sv zs
  | .inl e => .inl e
  | .inr ⟨b, cap, e, hb, hc⟩ => .inr ⟨b, cap, e, hb, fun j x hj => ⟨(h.cell (p := ⟨b, _, none⟩) hb).trans (hc j x hj).1, (h.cell (p := ⟨b, _, none⟩) hb).trans (hc j x hj).2.1, (h.cell (p := ⟨b, _, none⟩) hb).trans (hc j x hj).2.2⟩⟩

theorem RowsAt.more {n₀ n₁ : Nat} {A : World} {sv : Value} {zs : List Row} (hn : n₀ ≤ n₁) : RowsAt n₀ A sv zs → RowsAt n₁ A sv zs
  | .inl e => .inl e
  | .inr ⟨b, cap, e, hb, hc⟩ => .inr ⟨b, cap, e, by omega, hc⟩

set_option maxRecDepth 100000 in
set_option maxHeartbeats 1000000 in
theorem back1_in (F : Fence) (n : Nat) (hF : F.fn 110) (hro : F.round = none) (hn : 1 ≤ n) (l Bs n₀ b cap : Nat) (rs : List Row) (hreach : rs.length * 16 ≤ 140737488351232) (hb : b < n₀) (J Jx : List (Nat × Row) → World → Prop)
    (hY : ∀ pre x W, J pre W → pre.length < rs.length → YieldAt F (n - 1) Tryz.prog l #[.int .i64 (x.1 : Int), .agg #[.int .i32 x.2.1, .int .i32 x.2.2.1, .int .i64 x.2.2.2]] W fun e W' =>
      (e = .returned (.bool true) ∧ J (pre ++ [x]) W' ∧ Below n₀ W W') ∨ (e = .returned (.bool false) ∧ Jx (pre ++ [x]) W'))
    (W : World) (hBs : W.cell? ⟨Bs, 0, none⟩ = some (.slice (some ⟨b, 0, none⟩) rs.length cap)) (hBn : Bs < n₀)
    (hc : ∀ j x, rs[j]? = some x → W.cell? ⟨b, j * 3, none⟩ = some (.int .i32 x.1) ∧ W.cell? ⟨b, j * 3 + 1, none⟩ = some (.int .i32 x.2.1) ∧ W.cell? ⟨b, j * 3 + 2, none⟩ = some (.int .i64 x.2.2)) (h0 : J [] W) :
    CallsIn F n Tryz.prog 110 #[.func (.yield l) #[] #[], .pointer (some ⟨Bs, 0, none⟩)] W fun e W' => (∃ v, e = .returned v) ∧
      ((∃ ys, ys = upto (fun j => (rs.length - 1 - j, rs[rs.length - 1 - j]?.getD (0, 0, 0))) rs.length ∧ J ys W') ∨ (∃ pre, (∃ k, k ≤ rs.length ∧ pre = upto (fun j => (rs.length - 1 - j, rs[rs.length - 1 - j]?.getD (0, 0, 0))) k) ∧ Jx pre W')) := by
  refine callsIn_of_wp Tryz.func110 rfl hF ?_ hro
  simp only [Tryz.ntmps110, List.size_toArray, List.length_cons, List.length_nil, Nat.reduceAdd, Nat.reduceSub, Array.replicate_succ, Array.replicate_zero, List.push_toArray, List.append_toArray, List.nil_append, List.cons_append]
  gi_wp2
  gi_loopw [3] (fun i wr => ∃ k : Nat, k ≤ rs.length ∧ i = .int .i64 ((rs.length : Int) - 1 - k) ∧ J (upto (fun j => (rs.length - 1 - j, rs[rs.length - 1 - j]?.getD (0, 0, 0))) k) wr ∧ Below n₀ W wr)
    (fun i _ => (intOf i + 1).toNat)
  case atStart => exact ⟨0, Nat.zero_le _, by simp, h0, Below.refl _ _⟩
  case round =>
    obtain ⟨k, hk, rfl, hJs, hnx⟩ := hrel
    by_cases hlt : k < rs.length
    · obtain ⟨m, hm⟩ : ∃ m : Nat, m + k + 1 = rs.length := ⟨rs.length - 1 - k, by omega⟩
      have e1 : ((rs.length : Int) - 1 - k) = (m : Int) := by omega
      have e2 : rs.length - 1 - k = m := by omega
      obtain ⟨x, hx⟩ : ∃ x, rs[m]? = some x := ⟨_, List.getElem?_eq_getElem (by omega)⟩
      have hBs' : wr.cell? ⟨Bs, 0, none⟩ = some (.slice (some ⟨b, 0, none⟩) rs.length cap) := (hnx.cell (p := ⟨Bs, 0, none⟩) hBn).trans hBs
      have c1 : wr.cell? ⟨b, m * 3, none⟩ = some (.int .i32 x.1) := (hnx.cell (p := ⟨b, _, none⟩) hb).trans (hc m x hx).1
      have c2 : wr.cell? ⟨b, m * 3 + 1, none⟩ = some (.int .i32 x.2.1) := (hnx.cell (p := ⟨b, _, none⟩) hb).trans (hc m x hx).2.1
      have c3 : wr.cell? ⟨b, m * 3 + 2, none⟩ = some (.int .i64 x.2.2) := (hnx.cell (p := ⟨b, _, none⟩) hb).trans (hc m x hx).2.2
      obtain ⟨fn, tmps, assign, body, hy, hR⟩ := hY _ (m, x) wr hJs (by rw [upto_length]; exact hlt)
      have hfin : upto (fun j => (rs.length - 1 - j, rs[rs.length - 1 - j]?.getD (0, 0, 0))) k ++ [(m, x)] = upto (fun j => (rs.length - 1 - j, rs[rs.length - 1 - j]?.getD (0, 0, 0))) (k + 1) := by
        rw [upto_succ, e2, hx]; rfl
      have HF := Lib.hid hfin
      have E1 := Lib.hid e1
      rw [e1]
      have hmlt : m < rs.length := by omega
      clear hfin e1 e2 hx hm
      dsimp only at hy
      gi_wp2
      refine hR.mono ?_
      rintro e W3 (⟨rfl, hJ3, hk3⟩ | ⟨rfl, hJx3⟩)
      · gi_wp2
        go_roundw
        case rel => exact ⟨k + 1, by omega, by have := E1.out; simp; omega, by rw [← HF.out]; exact hJ3, hnx.trans hk3⟩
        case measure => simp [intOf]
      · gi_wp2
        refine bodyPost_ret (results_none rfl _ _ _) rfl ?_
        exact ⟨⟨_, rfl⟩, .inr ⟨_, ⟨k + 1, by omega, HF.out⟩, hJx3⟩⟩
    · have e1 : ((rs.length : Int) - 1 - k) = -1 := by omega
      obtain rfl : k = rs.length := by omega
      rw [e1]
      clear e1
      gi_wp2
      go_end0
      exact ⟨⟨_, rfl⟩, .inl ⟨_, rfl, hJs⟩⟩

set_option maxRecDepth 100000 in
set_option maxHeartbeats 1000000 in
/-- .. at the nil slice: no round. -/
theorem back1_nil_in (F : Fence) (n : Nat) (hF : F.fn 110) (hro : F.round = none) (l Bs : Nat) (J : List (Nat × Row) → World → Prop) (W : World) (hBs : W.cell? ⟨Bs, 0, none⟩ = some (.slice none 0 0)) (h0 : J [] W) :
    CallsIn F n Tryz.prog 110 #[.func (.yield l) #[] #[], .pointer (some ⟨Bs, 0, none⟩)] W fun e W' => (∃ v, e = .returned v) ∧ J [] W' := by
  refine callsIn_of_wp Tryz.func110 rfl hF ?_ hro
  simp only [Tryz.ntmps110, List.size_toArray, List.length_cons, List.length_nil, Nat.reduceAdd, Nat.reduceSub, Array.replicate_succ, Array.replicate_zero, List.push_toArray, List.append_toArray, List.nil_append, List.cons_append]
  gi_wp2
  gi_loopw [3] (fun i wr => i = .int .i64 (-1) ∧ J [] wr) (fun _ _ => 0)
  case atStart => exact ⟨rfl, h0⟩
  case round =>
    obtain ⟨rfl, hJs⟩ := hrel
    gi_wp2
    go_end0
    exact ⟨⟨_, rfl⟩, hJs⟩

set_option maxHeartbeats 1000000 in
theorem backward_in (F : Fence) (n : Nat) (h5 : F.fn 82) (hro : F.round = none) (a : Option Addr) (len cap : Nat) (w : World) :
    CallsIn F n Tryz.prog 82 #[.slice a len cap] w fun e w' => e = .returned (.func (.func 110) #[] #[.pointer (some ⟨w.heap.size, 0, none⟩)]) ∧ w' = w.alloc (.cells #[.slice a len cap] 52) := by
  refine callsIn_of_wp Tryz.func82 rfl h5 ?_ hro
  simp only [Tryz.ntmps82, List.size_toArray, List.length_cons, List.length_nil, Nat.reduceAdd, Nat.reduceSub, Array.replicate_succ, Array.replicate_zero, List.push_toArray, List.append_toArray, List.nil_append, List.cons_append]
  gi_wp2
  go_ret
  exact ⟨rfl, rfl⟩

/-- All rows from behind. -/
def backs (rs : List Row) (k : Nat) : List (Nat × Row) := upto (fun j => (rs.length - 1 - j, rs[rs.length - 1 - j]?.getD (0, 0, 0))) k

theorem backward_stops (F : Fence) (n : Nat) (h7 : F.fn 110) (hro : F.round = none) (hn : 1 ≤ n) (Bs n₀ : Nat) (sv : Value) (rs : List Row) (hreach : rs.length * 16 ≤ 140737488351232) (w : World) (hBs : Bs < w.heap.size) (hBn : Bs < n₀) (hn₀ : n₀ ≤ w.heap.size)
    (hc : w.cell? ⟨Bs, 0, none⟩ = some sv) (hI : RowsAt n₀ w sv rs) :
    SeqStopsK F n Tryz.prog 110 #[.pointer (some ⟨Bs, 0, none⟩)] (fun x : Nat × Row => #[Value.int .i64 (x.1 : Int), .agg #[.int .i32 x.2.1, .int .i32 x.2.2.1, .int .i64 x.2.2.2]]) (Below n₀) (fun ys => ys = backs rs rs.length)
      (fun pre => ∃ k, k ≤ rs.length ∧ pre = backs rs k) rs.length w := fun l J Jx W hW _ _ hY h0 => by
  have hc' := (hW.cell (p := ⟨Bs, 0, none⟩) hBs).trans hc
  rcases hI.below (hW.mono hn₀) with ⟨rfl, rfl⟩ | ⟨b, cap, rfl, hb, hcs⟩
  · exact (back1_nil_in F n h7 hro l Bs J W hc' h0).mono fun e W' ⟨he, hj⟩ => ⟨he, .inl ⟨_, rfl, hj⟩⟩
  · exact back1_in F n h7 hro hn l Bs n₀ b cap rs hreach hb J Jx hY W hc' hBn hcs h0

end Go.Proofs.YtgidpknckbgmbaaGreatDoor

namespace Go.Proofs.YtgidpknckbgmbaaGreatDoor
open Go.RowKit Go.Shelf

attribute [local go_sem] Oper.semAt_some

/-- Has a row a point? -/
def rowHas (r : Int) (x : Row) : Bool := decide (x.1 ≤ r) && decide (r ≤ x.2.1)
/-- What the last row that has a point says of it. -/
def saidF (rs : List Row) (r other : Int) : Int := ((rs.reverse.find? (rowHas r)).map (·.2.2)).getD other

theorem backs_none {rs : List Row} {r other : Int} (h : ∀ p ∈ backs rs rs.length, rowHas r p.2 = false) : saidF rs r other = other := by
  unfold saidF
  have : rs.reverse.find? (rowHas r) = none := by
    rw [List.find?_eq_none]
    intro x hx
    obtain ⟨i, hi, rfl⟩ := List.mem_iff_getElem.1 (List.mem_reverse.1 hx)
    have := h (i, rs[i]) (by
      simp only [backs, upto, List.mem_map, List.mem_range]
      refine ⟨rs.length - 1 - i, by omega, ?_⟩
      have e : rs.length - 1 - (rs.length - 1 - i) = i := by omega
      rw [e, List.getElem?_eq_getElem hi]; rfl)
    simpa using this
  rw [this]; rfl

theorem backs_found {rs : List Row} {r other : Int} {k : Nat} {ini : List (Nat × Row)} {last : Nat × Row} (hk : k ≤ rs.length) (e : backs rs k = ini ++ [last]) (h : ∀ p ∈ ini, rowHas r p.2 = false) (hl : rowHas r last.2 = true) : saidF rs r other = last.2.2.2 := by
  obtain ⟨k', rfl⟩ : ∃ k', k = k' + 1 := by
    cases k with
    | zero => simp [backs, upto] at e
    | succ k' => exact ⟨k', rfl⟩
  unfold backs at e
  rw [upto_succ] at e
  obtain ⟨rfl, e5⟩ := List.append_inj' e rfl
  have e6 : (rs.length - 1 - k', rs[rs.length - 1 - k']?.getD (0, 0, 0)) = last := by simpa using e5
  have hrev : ∀ j, j < rs.length → rs.reverse[j]? = some (rs[rs.length - 1 - j]?.getD (0, 0, 0)) := fun j hj => by
    rw [List.getElem?_reverse hj, List.getElem?_eq_getElem (by omega)]; rfl
  unfold saidF
  have : rs.reverse.find? (rowHas r) = some last.2 := by
    rw [List.find?_eq_some_iff_getElem]
    refine ⟨hl, k', by simp; omega, ?_, ?_⟩
    · have := hrev k' (by omega)
      rw [List.getElem?_eq_getElem (by simp; omega)] at this
      have := Option.some.inj this
      rw [this, ← e6]
    · intro j hj
      have h1 := h (rs.length - 1 - j, rs[rs.length - 1 - j]?.getD (0, 0, 0)) (by simp only [upto, List.mem_map, List.mem_range]; exact ⟨j, hj, rfl⟩)
      have := hrev j (by omega)
      rw [List.getElem?_eq_getElem (by simp; omega)] at this
      have := Option.some.inj this
      rw [this]
      simpa using h1
  rw [this]; rfl

theorem blk3 {W : World} {B : Nat} {t : TypeId} {a b c : Value} (h : W.heap[B]? = some (.cells #[a, b, c] t (0, 0))) : W.cell? ⟨B, 0, none⟩ = some a ∧ W.cell? ⟨B, 1, none⟩ = some b ∧ W.cell? ⟨B, 2, none⟩ = some c := by
  simp [World.cell?, h]

def NoneHas (r : Int) (pre : List (Nat × Row)) : Prop := ∀ p ∈ pre, rowHas r p.2 = false
theorem NoneHas.snoc {r : Int} {pre : List (Nat × Row)} {x : Nat × Row} (h : NoneHas r pre) (hx : rowHas r x.2 = false) : NoneHas r (pre ++ [x]) := fun p hp => (List.mem_append.1 hp).elim (h p) (fun e => by simp at e; subst e; exact hx)

set_option maxRecDepth 100000 in
set_option maxHeartbeats 2000000 in
theorem said_in (F : Fence) (n : Nat) (h3 : F.fn 61) (h4 : F.fn 82) (h5 : F.fn 110) (hro : F.round = none) (hn : 6 ≤ n) (a : Option Addr) (len cap : Nat) (r other : Int) (rs : List Row) (hreach : rs.length * 16 ≤ 140737488351232) (w : World) (hI : RowsAt w.heap.size w (.slice a len cap) rs) :
    CallsIn F n Tryz.prog 61 #[.slice a len cap, .int .i32 r, .int .i64 other] w fun e W' => e = .returned (.int .i64 (saidF rs r other)) ∧ Below w.heap.size w W' := by
  have h1 : 1 ≤ n := by omega
  refine callsIn_of_wp_marks Tryz.func61 rfl h3 ?_ hro
  simp only [Tryz.ntmps61, List.size_toArray, List.length_cons, List.length_nil, Nat.reduceAdd, Nat.reduceSub, Array.replicate_succ, Array.replicate_zero, List.push_toArray, List.append_toArray, List.nil_append, List.cons_append]
  gi_wp2_with (gi_at_call 82; refine (backward_in F (n - 1) h4 hro _ _ _ _).mono ?_; rintro e w' ⟨rfl, rfl⟩)
  have bR := ((Boxed.new w 21 (.int .i32 r)).alloc (.cells #[.int .i64 0] 3)).alloc (.cells #[.slice a len cap] 52)
  have bS := (Boxed.new (w.alloc (.cells #[.int .i32 r] 21)) 3 (.int .i64 0)).alloc (.cells #[.slice a len cap] 52)
  have bN := Boxed.new ((w.alloc (.cells #[.int .i32 r] 21)).alloc (.cells #[.int .i64 0] 3)) 52 (.slice a len cap)
  simp only [World.size_alloc] at bS bN
  have hB0 : Below w.heap.size w (((w.alloc (.cells #[.int .i32 r] 21)).alloc (.cells #[.int .i64 0] 3)).alloc (.cells #[.slice a len cap] 52)) := (((Below.refl _ w).alloc (Nat.le_refl _) _).alloc (by simp) _).alloc (by simp; omega) _
  have hsz : (((w.alloc (.cells #[.int .i32 r] 21)).alloc (.cells #[.int .i64 0] 3)).alloc (.cells #[.slice a len cap] 52)).heap.size = w.heap.size + 3 := by simp
  obtain ⟨W0, hW0⟩ : ∃ W0, ((w.alloc (.cells #[.int .i32 r] 21)).alloc (.cells #[.int .i64 0] 3)).alloc (.cells #[.slice a len cap] 52) = W0 := ⟨_, rfl⟩
  rw [hW0] at bR bS bN hB0 hsz ⊢
  clear hW0
  have hI0 : RowsAt (w.heap.size + 3) W0 (.slice a len cap) rs := RowsAt.more (by omega) (hI.below hB0)
  refine wpIn_rangeFunc_ownH hro h1 (gf := 110) (lb := #[.pointer (some ⟨w.heap.size + 1 + 1, 0, none⟩)]) rfl h5 (enters_of Tryz.func110 (by kernel_rfl) rfl)
    (backward_stops F (n - 1) h5 hro (by omega) (w.heap.size + 1 + 1) (w.heap.size + 3) _ rs hreach W0 (by omega) (by omega) (by omega) bN.cell hI0) belowK_t (belowK_b (by omega)) (Below.refl _ _) (fun _ => rfl)
    (fun pre W => (NoneHas r pre ∧ Boxed W w.heap.size 21 (.int .i32 r) ∧ Boxed W (w.heap.size + 1) 3 (.int .i64 0)) ∧ Below w.heap.size w W ∧ w.heap.size + 3 ≤ W.heap.size)
    (fun c pre W => (c = .ret ∧ ∃ ini last, pre = ini ++ [last] ∧ NoneHas r ini ∧ rowHas r last.2 = true ∧ Boxed W (w.heap.size + 1) 3 (.int .i64 last.2.2.2)) ∧ Below w.heap.size w W)
    (fun pre X Y row hs hg hr => ⟨⟨hs.1.1, boxed_own _ _ (fun (_ : Unit) => Value.int .i32 r) () X Y row hs.1.2.1 hg (fun q e => (hr q e).2), boxed_own _ _ (fun (_ : Unit) => Value.int .i64 0) () X Y row hs.1.2.2 hg (fun q e => (hr q e).2)⟩, ownFrom_below (B := W0.heap.size) (Nat.le_refl _) (by omega) pre X Y row hs.2.1 hg hr, Nat.le_trans hs.2.2 hg.size⟩)
    (fun c pre X Y row hs hg hr => by
      obtain ⟨⟨hc, ini, last, e1, e2, e3, e4⟩, e5⟩ := hs
      exact ⟨⟨hc, ini, last, e1, e2, e3, boxed_own _ _ (fun (_ : Unit) => Value.int .i64 last.2.2.2) () X Y row e4 hg (fun q e => (hr q e).2)⟩, ownFrom_below (B := W0.heap.size) (Nat.le_refl _) (by omega) pre X Y row e5 hg hr⟩)
    ⟨⟨fun _ h => by simp at h, bR, bS⟩, hB0, by omega⟩
    (fun x a' W => ∃ Bx, w.heap.size + 3 ≤ Bx ∧ W.heap[Bx]? = some (.cells #[.int .i32 x.2.1, .int .i32 x.2.2.1, .int .i64 x.2.2.2] 93 (0, 0)) ∧ a' = { tmps := #[.slice a len cap, .int .i32 r, .int .i64 other, undef, .pointer (some ⟨w.heap.size, 0, none⟩), undef, .pointer (some ⟨w.heap.size + 1, 0, none⟩), undef, .pointer (some ⟨Bx, 0, none⟩), .slice a len cap, .func (.func 110) #[] #[.pointer (some ⟨w.heap.size + 1 + 1, 0, none⟩)], .int .i64 (x.1 : Int), .agg #[.int .i32 x.2.1, .int .i32 x.2.2.1, .int .i64 x.2.2.2], undef, undef, undef, undef, undef, undef, undef, undef, undef, undef, undef, undef, undef, undef, undef], defers := [] })
    (fun x a' _ X Y row hs hg hr => by
      obtain ⟨Bx, h1, h2, h3⟩ := hs
      refine ⟨Bx, h1, (hg.block Bx (Array.getElem?_eq_some_iff.1 h2).1 (fun e => ?_)).trans h2, h3⟩
      obtain ⟨_, o, ho, hc⟩ := hr Bx e.symm
      rw [h2] at ho; cases ho; cases hc)
    ?assign ?body ?done ?stop
  case assign =>
    rintro l pre x W K ⟨⟨hp, bR1, bS1⟩, hB1, hs1⟩ hK
    gi_wp2
    exact hK _ _ ((KeepsOthers.alloc _ _).from _) ((Below.refl _ W).alloc hs1 _) ⟨⟨hp, bR1.alloc _, bS1.alloc _⟩, hB1.alloc hB1.size _, by simp; omega⟩ ⟨W.heap.size, hs1, heap_alloc_new W _, rfl⟩
  case body =>
    rintro l pre x a' W _ _ ⟨⟨hp, bR1, bS1⟩, hB1, hs1⟩ ⟨Bx, hBx, bX, rfl⟩ hlt
    have cR := bR1.cell
    obtain ⟨c1, c2, c3⟩ := blk3 bX
    have fS := bS1.frozen
    have cS := bS1.cell
    by_cases hlo : x.2.1 ≤ r
    · by_cases hhi : r ≤ x.2.2.1
      · gi_wp2
        exact ⟨(KeepsOthers.setCell _ _ _).from _, ⟨rfl, pre, x, rfl, hp, by simp [rowHas, hlo, hhi], bS1.set _⟩, hB1.setCell (p := ⟨w.heap.size + 1, 0, none⟩) (by simp) _⟩
      · have hhi' : x.2.2.1 < r := by omega
        gi_wp2
        exact ⟨KeepsFrom.refl _ _, Below.refl _ _, ⟨hp.snoc (by simp [rowHas]; omega), bR1, bS1⟩, hB1, hs1⟩
    · have hlo' : r < x.2.1 := by omega
      gi_wp2
      exact ⟨KeepsFrom.refl _ _, Below.refl _ _, ⟨hp.snoc (by simp [rowHas]; omega), bR1, bS1⟩, hB1, hs1⟩
  case done =>
    rintro D ys W hD rfl ⟨⟨hne, bR1, bS1⟩, hB1, hs1⟩ hK
    have fS := bS1.frozen
    have cS := bS1.cell
    gi_wp2
    have hK' := (KeepsOthers.setCell W ⟨w.heap.size + 1, 0, none⟩ (.int .i64 other)).same D _ hK rfl
    refine ⟨by simp, .inl ⟨_, _, rfl, run_takeDeferred hK', ?_⟩⟩
    have hc5 := cell_kept (World.cell?_setCell_same' W ⟨w.heap.size + 1, 0, none⟩ (.int .i64 other) (by rw [cS]; rfl)) (grownBy_putObj' _ D (.deferred none)) (fun r e => by cases e; exact ⟨_, hK', rfl⟩)
    refine ⟨.int .i64 other, ?_, ret_int (backs_none hne).symm, (hB1.setCell (p := ⟨w.heap.size + 1, 0, none⟩) (by simp) _).trans (belowK_b (w := w) (Nat.le_refl _) _ D _ _ (by omega) hK' rfl rfl)⟩
    simp [results, Tryz.f61, go_sem, hc5]
  case stop =>
    rintro D c pre W hD ⟨k, hk, rfl⟩ ⟨⟨rfl, ini, last, e1, e2, e3, bS1⟩, hB⟩ hK
    gi_wp2
    refine ⟨by simp, .inl ⟨_, _, rfl, run_takeDeferred hK, ?_⟩⟩
    have hc5 := cell_kept bS1.cell (grownBy_putObj' _ D (.deferred none)) (fun r e => by cases e; exact ⟨_, hK, rfl⟩)
    refine ⟨.int .i64 last.2.2.2, ?_, ret_int (backs_found hk e1 e2 e3).symm, hB.trans (belowK_b (w := w) (Nat.le_refl _) W D _ _ (by omega) hK rfl rfl)⟩
    simp [results, Tryz.f61, go_sem, hc5]

theorem said_any (sv : Value) (r other : Int) (rs : List Row) (hreach : rs.length * 16 ≤ 140737488351232) (w : World) (hI : RowsAt w.heap.size w sv rs) :
    Calls Tryz.prog 61 #[sv, .int .i32 r, .int .i64 other] w fun e W' => e = .returned (.int .i64 (saidF rs r other)) ∧ Below w.heap.size w W' := by
  refine (callsIn_wide (n := 6)).1 ?_
  rcases id hI with ⟨rfl, rfl⟩ | ⟨b, cap, rfl, _⟩
  · exact said_in Fence.wide 6 trivial trivial trivial rfl (by omega) _ _ _ r other _ hreach w hI
  · exact said_in Fence.wide 6 trivial trivial trivial rfl (by omega) _ _ _ r other _ hreach w hI

end Go.Proofs.YtgidpknckbgmbaaGreatDoor
