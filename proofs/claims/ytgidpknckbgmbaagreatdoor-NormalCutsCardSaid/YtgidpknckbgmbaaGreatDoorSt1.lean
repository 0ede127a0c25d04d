/- Stable sorting, plainly: what sorted and stable mean for rows of numbers under a key; the one row that is both; rows as arrays, and exchanges in them. Sorting points stably, under a function that tells two points' order and may make memory: the words, and the insertion sort. -/
import Derived.Sort.AssemblyPlain
import Derived.Sort.Row
import Derived.Test.YtgidpknckbgmbaaGreatDoorSr1
set_option linter.unusedSimpArgs false
set_option linter.unusedVariables false
namespace Go.Proofs.YtgidpknckbgmbaaGreatDoor
open Go.Sort

/-- Keys never fall. -/
def Srt (k : Int → Int) (l : List Int) : Prop := l.Pairwise fun a b => k a ≤ k b
/-- What has one key stands in one order in both rows. -/
def StEq (k : Int → Int) (l m : List Int) : Prop := ∀ c : Int, l.filter (fun x => decide (k x = c)) = m.filter (fun x => decide (k x = c))

theorem StEq.refl {k : Int → Int} (l : List Int) : StEq k l l := fun _ => rfl
theorem StEq.symm {k : Int → Int} {l m : List Int} (h : StEq k l m) : StEq k m l := fun c => (h c).symm
theorem StEq.trans {k : Int → Int} {l m n : List Int} (h : StEq k l m) (g : StEq k m n) : StEq k l n := fun c => (h c).trans (g c)
theorem StEq.app {k : Int → Int} {a b c d : List Int} (h : StEq k a b) (g : StEq k c d) : StEq k (a ++ c) (b ++ d) := fun x => by rw [List.filter_append, List.filter_append, h x, g x]
theorem StEq.mem {k : Int → Int} {l m : List Int} (h : StEq k l m) {x : Int} (hx : x ∈ l) : x ∈ m := by
  have : x ∈ l.filter (fun y => decide (k y = k x)) := by simp [hx]
  rw [h (k x)] at this
  exact (List.mem_filter.1 this).1
theorem StEq.turn {k : Int → Int} {a b : List Int} (h : ∀ x ∈ a, ∀ y ∈ b, k x ≠ k y) : StEq k (a ++ b) (b ++ a) := fun c => by
  rw [List.filter_append, List.filter_append]
  by_cases ha : a.filter (fun x => decide (k x = c)) = []
  · rw [ha]; simp
  · have hb : b.filter (fun x => decide (k x = c)) = [] := by
      rw [List.filter_eq_nil_iff]
      intro y hy hc
      obtain ⟨x, hx⟩ := List.exists_mem_of_ne_nil _ ha
      have := List.mem_filter.1 hx
      exact h x this.1 y hy (by simp at this hc; omega)
    rw [hb]; simp

theorem Srt.nil {k : Int → Int} : Srt k [] := List.Pairwise.nil
theorem Srt.one {k : Int → Int} (x : Int) : Srt k [x] := List.pairwise_singleton _ _
theorem Srt.app {k : Int → Int} {a b : List Int} (ha : Srt k a) (hb : Srt k b) (h : ∀ x ∈ a, ∀ y ∈ b, k x ≤ k y) : Srt k (a ++ b) := List.pairwise_append.2 ⟨ha, hb, h⟩
theorem Srt.left {k : Int → Int} {a b : List Int} (h : Srt k (a ++ b)) : Srt k a := (List.pairwise_append.1 h).1
theorem Srt.right {k : Int → Int} {a b : List Int} (h : Srt k (a ++ b)) : Srt k b := (List.pairwise_append.1 h).2.1
theorem Srt.le {k : Int → Int} {a b : List Int} (h : Srt k (a ++ b)) : ∀ x ∈ a, ∀ y ∈ b, k x ≤ k y := (List.pairwise_append.1 h).2.2

/-- One row alone is sorted and has what has one key in that order. -/
theorem srt_unique {k : Int → Int} : ∀ {l m : List Int}, Srt k l → Srt k m → StEq k l m → l = m
  | [], [], _, _, _ => rfl
  | [], y :: m, _, _, h => by have := h.symm.mem (x := y) (by simp); simp at this
  | x :: l, [], _, _, h => by have := h.mem (x := x) (by simp); simp at this
  | x :: l, y :: m, hl, hm, h => by
    have hx : ∀ z ∈ l, k x ≤ k z := fun z => List.rel_of_pairwise_cons hl
    have hy : ∀ z ∈ m, k y ≤ k z := fun z => List.rel_of_pairwise_cons hm
    have m1 := h.mem (x := x) (by simp)
    have m2 := h.symm.mem (x := y) (by simp)
    have e : k x = k y := by
      have a1 : k y ≤ k x := by
        rcases List.mem_cons.1 m1 with e | e
        · rw [e]; omega
        · exact hy x e
      have a2 : k x ≤ k y := by
        rcases List.mem_cons.1 m2 with e | e
        · rw [e]; omega
        · exact hx y e
      omega
    have hc := h (k x)
    rw [List.filter_cons_of_pos (by simp), List.filter_cons_of_pos (by simp [e])] at hc
    obtain ⟨e2, _⟩ := List.cons.inj hc
    subst e2
    have : l = m := srt_unique (List.Pairwise.of_cons hl) (List.Pairwise.of_cons hm) fun c => by
      have hc := h c
      by_cases hk : k x = c
      · rw [List.filter_cons_of_pos (by simpa using hk), List.filter_cons_of_pos (by simpa using hk)] at hc
        exact (List.cons.inj hc).2
      · rw [List.filter_cons_of_neg (by simpa using hk), List.filter_cons_of_neg (by simpa using hk)] at hc
        exact hc
    rw [this]

/-- A number put behind all that has its key. -/
def insB (k : Int → Int) (x : Int) : List Int → List Int
  | [] => [x]
  | y :: l => if k x < k y then x :: y :: l else y :: insB k x l
/-- THE STABLE SORT. -/
def ssort (k : Int → Int) (l : List Int) : List Int := l.foldl (fun a x => insB k x a) []

theorem insB_split (k : Int → Int) (x : Int) : ∀ l, Srt k l → ∃ a b, l = a ++ b ∧ insB k x l = a ++ x :: b ∧ (∀ y ∈ a, k y ≤ k x) ∧ (∀ y ∈ b, k x < k y)
  | [], _ => ⟨[], [], rfl, rfl, by simp, by simp⟩
  | y :: l, hs => by
    unfold insB
    by_cases h : k x < k y
    · rw [if_pos h]
      refine ⟨[], y :: l, rfl, rfl, by simp, fun z hz => ?_⟩
      rcases List.mem_cons.1 hz with rfl | hz
      · exact h
      · have := List.rel_of_pairwise_cons hs hz
        omega
    · rw [if_neg h]
      obtain ⟨a, b, e1, e2, h1, h2⟩ := insB_split k x l (List.Pairwise.of_cons hs)
      refine ⟨y :: a, b, by rw [e1]; rfl, by rw [e2]; rfl, fun z hz => ?_, h2⟩
      rcases List.mem_cons.1 hz with rfl | hz
      · omega
      · exact h1 z hz

/-- A number put into a sorted row, between what is not above it and what is above it: sorted; and nothing of one key has changed its order against the row with the number behind it. -/
theorem put_between {k : Int → Int} {a b : List Int} {x : Int} (hs : Srt k (a ++ b)) (h1 : ∀ y ∈ a, k y ≤ k x) (h2 : ∀ y ∈ b, k x < k y) : Srt k (a ++ x :: b) ∧ StEq k (a ++ b ++ [x]) (a ++ x :: b) := by
  refine ⟨?_, ?_⟩
  · refine hs.left.app (b := x :: b) (List.pairwise_cons.2 ⟨fun y hy => by have := h2 y hy; omega, hs.right⟩) ?_
    intro y hy z hz
    rcases List.mem_cons.1 hz with rfl | hz
    · exact h1 y hy
    · exact hs.le y hy z hz
  · rw [List.append_assoc]
    exact (StEq.refl a).app (StEq.turn (b := [x]) fun y hy z hz => by simp at hz; subst hz; have := h2 y hy; omega)

theorem ssort_fold (k : Int → Int) : ∀ (l acc : List Int), Srt k acc → Srt k (l.foldl (fun a x => insB k x a) acc) ∧ StEq k (acc ++ l) (l.foldl (fun a x => insB k x a) acc)
  | [], acc, h => ⟨h, by rw [List.append_nil]; exact StEq.refl _⟩
  | x :: l, acc, h => by
    obtain ⟨a, b, e1, e2, h1, h2⟩ := insB_split k x acc h
    have p := put_between (x := x) (e1 ▸ h) h1 h2
    have g : Srt k (insB k x acc) := by rw [e2]; exact p.1
    obtain ⟨q1, q2⟩ := ssort_fold k l (insB k x acc) g
    refine ⟨q1, ?_⟩
    have : StEq k (acc ++ [x] ++ l) (insB k x acc ++ l) := by
      rw [e2, e1]
      exact p.2.app (StEq.refl l)
    rw [List.append_assoc] at this
    exact this.trans q2
theorem ssort_srt (k : Int → Int) (l : List Int) : Srt k (ssort k l) := (ssort_fold k l [] .nil).1
theorem ssort_st (k : Int → Int) (l : List Int) : StEq k l (ssort k l) := (ssort_fold k l [] .nil).2
theorem ssort_is {k : Int → Int} {l m : List Int} (h1 : Srt k m) (h2 : StEq k l m) : m = ssort k l := srt_unique h1 (ssort_srt k l) (h2.symm.trans (ssort_st k l))
theorem ssort_self {k : Int → Int} {l : List Int} (h : Srt k l) : ssort k l = l := (ssort_is h (StEq.refl l)).symm
theorem insB_len (k : Int → Int) (x : Int) : ∀ l, (insB k x l).length = l.length + 1
  | [] => rfl
  | y :: l => by
    unfold insB
    split
    · rfl
    · simp [insB_len k x l]
theorem ssort_len_f (k : Int → Int) : ∀ (l acc : List Int), (l.foldl (fun a x => insB k x a) acc).length = acc.length + l.length
  | [], acc => rfl
  | x :: l, acc => by
    have := ssort_len_f k l (insB k x acc)
    rw [insB_len] at this
    simp only [List.foldl_cons, List.length_cons]
    omega
theorem ssort_len (k : Int → Int) (l : List Int) : (ssort k l).length = l.length := by
  have := ssort_len_f k l []
  unfold ssort
  simpa using this

/-- Row X' is row X, sorted, what has one key in its order. -/
structure SOut (k : Int → Int) (X X' : List Int) : Prop where
  len : X'.length = X.length
  srt : Srt k X'
  st : StEq k X X'
theorem SOut.is {k : Int → Int} {X X' : List Int} (h : SOut k X X') : X' = ssort k X := ssort_is h.srt h.st
theorem SOut.of {k : Int → Int} {X X' : List Int} (h : X' = ssort k X) : SOut k X X' := ⟨by rw [h, ssort_len], by rw [h]; exact ssort_srt k X, by rw [h]; exact ssort_st k X⟩

/-! Rows as arrays. -/
theorem at_mid (a : List Int) (x : Int) (b : List Int) {i : Nat} (h : a.length = i) : (a ++ x :: b).toArray[i]! = x := by
  subst h
  rw [getElem!_pos _ a.length (by simp)]
  simp
theorem at_mid2 (a b : List Int) (y : Int) (c : List Int) {i : Nat} (h : a.length + b.length = i) : (a ++ (b ++ y :: c)).toArray[i]! = y := by
  rw [← List.append_assoc]
  exact at_mid _ y c (by rw [List.length_append]; exact h)
/-- An exchange. -/
theorem swp_mid (a : List Int) (x : Int) (b : List Int) (y : Int) (c : List Int) {i j : Nat} (h : a.length = i) (g : i + 1 + b.length = j) :
    swp (a ++ x :: (b ++ y :: c)).toArray i j = (a ++ y :: (b ++ x :: c)).toArray := by
  have e1 : (a ++ x :: (b ++ y :: c)).toArray[i]! = x := at_mid a x _ h
  have e2 : (a ++ x :: (b ++ y :: c)).toArray[j]! = y := by
    have := at_mid (a ++ x :: b) y c (i := j) (by simp; omega)
    simpa using this
  unfold swp
  rw [e1, e2]
  apply Array.ext'
  simp only [Array.toList_setIfInBounds]
  subst h
  rw [List.set_append_right _ _ (Nat.le_refl _), Nat.sub_self, List.set_cons_zero, List.set_append_right _ _ (by omega)]
  rw [show j - a.length = b.length + 1 from by omega, List.set_cons_succ, List.set_append_right _ _ (Nat.le_refl _), Nat.sub_self, List.set_cons_zero]
/-- The same exchange, the places named the other way round. -/
theorem swp_comm (d : Array Int) (i j : Nat) : swp d i j = swp d j i := by
  unfold swp
  by_cases h : i = j
  · subst h; rfl
  · rw [Array.setIfInBounds_comm _ _ h]
theorem swp_next (a : List Int) (x y : Int) (c : List Int) {i : Nat} (h : a.length = i) : swp (a ++ x :: y :: c).toArray i (i + 1) = (a ++ y :: x :: c).toArray := swp_mid a x [] y c h rfl

end Go.Proofs.YtgidpknckbgmbaaGreatDoor

namespace Go.Proofs.YtgidpknckbgmbaaGreatDoor
open Go.RowKit Go.Sort

/-- A world that differs from w by new blocks. -/
structure BelowBy (w : World) where
  W : World
  h : Below w.heap.size w W
instance (w : World) : Nonempty (BelowBy w) := ⟨⟨w, Below.refl _ _⟩⟩
instance (w : World) : Inhabited (BelowBy w) := ⟨⟨w, Below.refl _ _⟩⟩
theorem wp_region_quiet_below {P : Program} {id : Nat} {Q : Exit → Act → World → Prop} {a : Act} {w : World} {l : List Oper} (hm : P.follows .mixedOrders = true) (hB : Region.lexB .any l.toArray = true)
    (h : wpQuiet P l.toArray (fun w' => ∃ p : BelowBy w, w' = p.W) (fun a' => ∀ w', (∃ p : BelowBy w, w' = p.W) → Q .normal a' w') l a) : (Code.region id l.toArray true).wp P Q a w :=
  wp_region_quiet (C := fun w' => ∃ p : BelowBy w, w' = p.W) hm hB ⟨⟨w.drew, (Below.refl _ _).drew⟩, rfl⟩ (by simpa using h)
theorem below_by {P : Program} {f : FuncId} {args : Array Value} {w : World} {p : BelowBy w} {v : Value} (h : Calls P f args p.W fun e w' => e = .returned v ∧ Below p.W.heap.size p.W w') : Calls P f args p.W fun e w'' => e = .returned v ∧ ∃ p' : BelowBy w, w'' = p'.W :=
  h.mono fun _ w' ⟨he, hb⟩ => ⟨he, ⟨⟨w', bt p.h hb⟩, rfl⟩⟩

theorem RW.below {blk S : Nat} {d : Array Int} {w w' : World} (h : RW blk S d w) (hb : Below w.heap.size w w') : RW blk S d w' := h.same (hb.block blk h.lt)
theorem RW.drew {blk S : Nat} {d : Array Int} {w : World} (h : RW blk S d w) : RW blk S d w.drew := h
/-- The cell of a row told by its parts. -/
theorem RW.at {blk S : Nat} {a : List Int} {x : Int} {b : List Int} {w : World} (h : RW blk S (a ++ x :: b).toArray w) {i : Nat} (hi : a.length = i) : w.cell? ⟨blk, i, none⟩ = some (.int .i32 x) := by
  have := h.cell (j := i) (by simp; omega)
  rwa [at_mid a x b hi] at this
/-- An exchange, by parts. -/
theorem RW.exch {blk S : Nat} {a : List Int} {x : Int} {b : List Int} {y : Int} {c : List Int} {w : World} (h : RW blk S (a ++ x :: (b ++ y :: c)).toArray w) {i j : Nat} (hi : a.length = i) (hj : i + 1 + b.length = j) :
    RW blk S (a ++ y :: (b ++ x :: c)).toArray ((w.setCell ⟨blk, i, none⟩ (.int .i32 y)).setCell ⟨blk, j, none⟩ (.int .i32 x)) := by
  have h1 := h.swp i j (by simp; omega) (by simp; omega)
  rw [swp_mid a x b y c hi hj, at_mid a x _ hi] at h1
  have e2 : (a ++ x :: (b ++ y :: c)).toArray[j]! = y := by
    have := at_mid (a ++ x :: b) y c (i := j) (by simp; omega)
    simpa using this
  rwa [e2] at h1
theorem RW.exch' {blk S : Nat} {a : List Int} {x : Int} {b : List Int} {y : Int} {c : List Int} {w : World} (h : RW blk S (a ++ x :: (b ++ y :: c)).toArray w) {i j : Nat} (hi : a.length = i) (hj : i + 1 + b.length = j) :
    RW blk S (a ++ y :: (b ++ x :: c)).toArray ((w.setCell ⟨blk, j, none⟩ (.int .i32 x)).setCell ⟨blk, i, none⟩ (.int .i32 y)) := by
  have h1 := h.swp j i (by simp; omega) (by simp; omega)
  rw [swp_comm, swp_mid a x b y c hi hj, at_mid a x _ hi] at h1
  have e2 : (a ++ x :: (b ++ y :: c)).toArray[j]! = y := by
    have := at_mid (a ++ x :: b) y c (i := j) (by simp; omega)
    simpa using this
  rwa [e2] at h1

/-- The function that tells two points' order, and what is asked of it. -/
def cmpV (pb : Nat) : Value := .func (.func 58) #[] #[.pointer (some ⟨pb, 0, none⟩)]
def CmpOK (W0 : World) (blk pb : Nat) (k : Int → Int) : Prop := ∀ w, W0.grownBy w (some blk) → ∀ x y : Int,
  Calls Tryz.prog 58 #[.int .i32 x, .int .i32 y, .pointer (some ⟨pb, 0, none⟩)] w fun e w' => e = .returned (.int .i64 (k x - k y)) ∧ Below w.heap.size w w'
def StPost (W0 : World) (blk S : Nat) (L : List Int) (e : Ending) (w' : World) : Prop := e = .returned (.tuple #[]) ∧ RW blk S L.toArray w' ∧ W0.grownBy w' (some blk)
theorem grown_below {W0 w w' : World} {r : Option Nat} (h : W0.grownBy w r) (hb : Below w.heap.size w w') : W0.grownBy w' r := 
  ⟨hb.os.trans h.os, hb.tape.trans h.tape, hb.output.trans h.output, Nat.le_trans h.size hb.size, fun k h1 h2 => (hb.block k (Nat.lt_of_lt_of_le h1 h.size)).trans (h.block k h1 h2)⟩

theorem sorted_small (k : Int → Int) (l : List Int) (h : l.length ≤ 1) : ssort k l = l := by
  match l, h with
  | [], _ => rfl
  | [x], _ => rfl
theorem take_get (X : List Int) (t : Nat) (h : t < X.length) : X.drop t = X[t] :: X.drop (t + 1) := List.drop_eq_getElem_cons h
/-- The number at its place: a sorted row with one number more. -/
theorem ins_done {k : Int → Int} {X P Q : List Int} {t : Nat} (ht : t < X.length) (e : P ++ Q = ssort k (X.take t)) (h2 : ∀ y ∈ Q, k X[t] < k y) (h1 : P = [] ∨ ∃ p y, P = p ++ [y] ∧ k y ≤ k X[t]) : P ++ X[t] :: Q = ssort k (X.take (t + 1)) := by
  have hs : Srt k (P ++ Q) := by rw [e]; exact ssort_srt _ _
  have h1' : ∀ y ∈ P, k y ≤ k X[t] := by
    rcases h1 with rfl | ⟨p, y, rfl, hy⟩
    · simp
    · intro z hz
      rcases List.mem_append.1 hz with hz | hz
      · have := hs.left.le z hz y (by simp)
        omega
      · simp at hz; subst hz; exact hy
  have hp := put_between hs h1' h2
  refine ssort_is hp.1 ?_
  rw [List.take_succ_eq_append_getElem ht]
  refine StEq.trans ((ssort_st k (X.take t)).app (StEq.refl [X[t]])) ?_
  rw [← e]
  exact hp.2

set_option maxHeartbeats 1000000 in
set_option maxRecDepth 100000 in
theorem insC_any (W0 : World) (k : Int → Int) (pb blk S off n cap a b : Nat) (A X B : List Int) (w : World) (hC : CmpOK W0 blk pb k) (hg : W0.grownBy w (some blk)) (h : RW blk S (A ++ (X ++ B)).toArray w)
    (hA : A.length = off + a) (hX : a + X.length = b) (hb : b ≤ n) (hbig : off + n ≤ 4611686018427387904) :
    Calls Tryz.prog 108 #[.slice (some ⟨blk, off, none⟩) n cap, .int .i64 a, .int .i64 b, cmpV pb] w (StPost W0 blk S (A ++ (ssort k X ++ B))) := by
  unfold cmpV
  have mixed : Tryz.prog.follows .mixedOrders = true := by kernel_rfl
  have hst : RW blk S (A ++ (ssort k (X.take 1) ++ (X.drop 1 ++ B))).toArray w := by
    rw [sorted_small k (X.take 1) (by simp; omega), ← List.append_assoc (X.take 1), List.take_append_drop]
    exact h
  have H := Lib.hid hst
  have HG := Lib.hid hg
  have HC := Lib.hid hC
  have HA := Lib.hid hA
  clear h hst hg hC hA
  go_enter Tryz.func108, Tryz.ntmps108
  go_wp2
  go_loopw [8] (fun i wr => ∃ (t : Nat), 1 ≤ t ∧ (t ≤ X.length ∨ t = 1) ∧ i = .int .i64 ((a : Int) + t) ∧ Hid (RW blk S (A ++ (ssort k (X.take t) ++ (X.drop t ++ B))).toArray wr) ∧ Hid (W0.grownBy wr (some blk)))
    (fun i _ => b - (intOf i).toNat)
  case atStart => exact ⟨1, by omega, .inr rfl, by go_num, H, HG⟩
  case round =>
    obtain ⟨t, ht1, ht2, rfl, hR, hg⟩ := hrel
    by_cases htb : t < X.length
    · have htz : (a : Int) + t < b := by omega
      obtain ⟨x, hx⟩ : ∃ x, X[t] = x := ⟨_, rfl⟩
      have hR0 : RW blk S (A ++ (ssort k (X.take t) ++ x :: ([] ++ (X.drop (t + 1) ++ B)))).toArray wr := by
        have := hR.out
        rwa [take_get X t htb, hx] at this
      have hlen : (ssort k (X.take t)).length = t := by rw [ssort_len, List.length_take]; omega
      have HR0 := Lib.hid hR0
      have HL := Lib.hid hlen
      have HX := Lib.hid hx
      clear hR hR0 hlen hx
      go_wp2
      go_loopw [9] (fun v w2 => ∃ (j : Nat) (P Q : List Int), a ≤ j ∧ j ≤ a + t ∧ v = .int .i64 j ∧ Hid (a + P.length = j) ∧ Hid (P ++ Q = ssort k (X.take t)) ∧ Hid (∀ y ∈ Q, k x < k y) ∧ Hid (RW blk S (A ++ (P ++ x :: (Q ++ (X.drop (t + 1) ++ B)))).toArray w2) ∧ Hid (W0.grownBy w2 (some blk)))
        (fun v _ => (intOf v).toNat)
      case atStart => exact ⟨a + t, ssort k (X.take t), [], by omega, by omega, by go_num, by show _ = _; rw [HL.out], by show _ = _; simp, fun y hy => (List.not_mem_nil hy).elim, HR0, hg⟩
      case round =>
        obtain ⟨j, P, Q, hj1, hj2, rfl, hP, hPQ, hQ, hR, hg2⟩ := hrel
        clear hg HR0
        rcases List.eq_nil_or_concat P with rfl | ⟨p, y, rfl⟩
        · have hj : ¬ a < j := by have := hP.out; simp at this; omega
          have hfin := ins_done htb hPQ.out (by rw [HX.out]; exact hQ.out) (.inl rfl)
          rw [HX.out] at hfin
          have hR' : RW blk S (A ++ (ssort k (X.take (t + 1)) ++ (X.drop (t + 1) ++ B))).toArray wr := by
            rw [← hfin, List.nil_append]; exact hR.out
          have HR' := Lib.hid hR'
          clear hR' hfin hR hPQ hQ hP
          go_wp2_with fail
          go_quiet (fail)
          go_wp2
          go_roundw
          case rel => exact ⟨t + 1, by omega, .inl (by omega), by go_num, HR', grown_drewN hg2.out nq⟩
          case measure => simp [intOf]; omega
        · have hj : a < j := by have := hP.out; simp at this; omega
          have hpl : (A ++ p).length = off + (j - 1) := by have := hP.out; have := HA.out; simp at *; omega
          have hR1 : RW blk S ((A ++ p) ++ y :: ([] ++ x :: (Q ++ (X.drop (t + 1) ++ B)))).toArray wr := by
            have := hR.out
            simpa using this
          have c1 : ∀ q : BelowBy wr, q.W.cell? ⟨blk, off + j, none⟩ = some (.int .i32 x) := fun q => by
            have := hR1.below q.h
            rw [show (A ++ p) ++ y :: ([] ++ x :: (Q ++ (X.drop (t + 1) ++ B))) = (A ++ p ++ [y]) ++ x :: (Q ++ (X.drop (t + 1) ++ B)) by simp] at this
            exact this.at (by rw [List.length_append, hpl]; simp; omega)
          have c2 : ∀ q : BelowBy wr, q.W.cell? ⟨blk, off + (j - 1), none⟩ = some (.int .i32 y) := fun q => (hR1.below q.h).at hpl
          have hcmp := Lib.hid fun q : BelowBy wr => HC.out q.W (grown_below hg2.out q.h) x y
          have HR1 := Lib.hid hR1
          have HPL := Lib.hid hpl
          clear hR1 hpl
          have hjb : j < n := by omega
          have hjb1 : j - 1 < n := by omega
          have hwr : IntKind.i64.wrap ((j : Int) - 1) = ((j - 1 : Nat) : Int) := by rw [IntKind.wrap_i64]; omega
          by_cases hlt : k x - k y < 0
          · clear hR
            go_wp2_with fail
            refine wp_region_quiet_below mixed (by kernel_rfl) ?_
            repeat (quiet_step ((go_at_call 58; exact below_by (hcmp.out _))))
            refine wpQuiet_nil ?_
            intro w3 hw'
            obtain ⟨⟨w4, hw3⟩, hw''⟩ := hw'
            change w3 = w4 at hw''
            subst hw''
            have c3 : w3.cell? ⟨blk, off + j, none⟩ = some (.int .i32 x) := c1 ⟨w3, hw3⟩
            have c4 : w3.cell? ⟨blk, off + (j - 1), none⟩ = some (.int .i32 y) := c2 ⟨w3, hw3⟩
            have hR3 := Lib.hid (HR1.out.below hw3)
            have hg3 := Lib.hid (grown_below hg2.out hw3)
            have fr := fun i => hR3.out.frozen i
            clear c1 c2 hcmp HR1 hg2 hw3 hwr
            go_wp2_with fail
            go_region
            have hR4 := hR3.out.exch' (i := off + (j - 1)) (j := off + j) HPL.out (by simp; omega)
            have hg4 : w3.grownBy _ (some blk) := swp_grown w3 blk (off + j) (off + (j - 1)) (.int .i32 y) (.int .i32 x)
            go_wp2
            go_roundw
            case rel => exact ⟨j - 1, p, y :: Q, by omega, by omega, by go_num, by have := hP.out; show _ = _; simp at this; omega, by have := hPQ.out; show _ = _; simpa using this, (by
              intro z hz
              rcases List.mem_cons.1 hz with rfl | hz
              · omega
              · exact hQ.out z hz), by
              have := RW.drew hR4
              show RW _ _ _ _
              simpa using this, hg3.out.trans hg4⟩
            case measure => simp [intOf]; omega
          · have hfin := ins_done htb hPQ.out (by rw [HX.out]; exact hQ.out) (.inr ⟨p, y, List.concat_eq_append, by rw [HX.out]; omega⟩)
            rw [HX.out] at hfin
            have hR' : RW blk S (A ++ (ssort k (X.take (t + 1)) ++ (X.drop (t + 1) ++ B))).toArray wr := by
              rw [← hfin]; simpa using hR.out
            have HR' := Lib.hid hR'
            clear hR' hfin hR
            go_wp2_with fail
            refine wp_region_quiet_below mixed (by kernel_rfl) ?_
            repeat (quiet_step ((go_at_call 58; exact below_by (hcmp.out _))))
            refine wpQuiet_nil ?_
            intro w3 hw'
            obtain ⟨⟨w4, hw3⟩, hw''⟩ := hw'
            change w3 = w4 at hw''
            subst hw''
            have hR3 := Lib.hid (HR'.out.below hw3)
            have hg3 := Lib.hid (grown_below hg2.out hw3)
            clear c1 c2 hcmp HR1 hg2 hw3 HR' hwr
            go_wp2
            go_roundw
            case rel => exact ⟨t + 1, by omega, .inl (by omega), by go_num, hR3, hg3⟩
            case measure => simp [intOf]; omega
    · have hR' : RW blk S (A ++ (ssort k X ++ B)).toArray wr := by
        have := hR.out
        rwa [List.take_of_length_le (by omega), List.drop_of_length_le (by omega), List.nil_append] at this
      have HR' := Lib.hid hR'
      clear hR hR'
      go_wp2
      go_end0
      exact ⟨rfl, HR'.out, hg.out⟩

end Go.Proofs.YtgidpknckbgmbaaGreatDoor
