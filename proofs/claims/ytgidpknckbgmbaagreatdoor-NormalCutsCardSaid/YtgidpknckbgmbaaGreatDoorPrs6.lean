/- props.Parse: what the loop over the lines keeps, round by round. -/
import Derived.Test.YtgidpknckbgmbaaGreatDoorPrs4
set_option linter.unusedSimpArgs false
set_option linter.unusedVariables false
namespace Go.Proofs.YtgidpknckbgmbaaGreatDoor
open Go.RowKit

/-- The reader as it is laid. -/
def readerW (W : World) : World :=
  ((((((W.alloc (.map #[] 0)).alloc (.map #[] 0)).alloc (.map #[] 0)).alloc
    (.cells #[.slice none 0 0, .slice none 0 0, .map (some W.heap.size), .map (some (W.heap.size + 1)), .map (some (W.heap.size + 1 + 1))] 54)).alloc (.map #[] 0)).alloc
    (.cells #[.pointer (some ⟨W.heap.size + 1 + 1 + 1, 0, none⟩), .map (some (W.heap.size + 1 + 1 + 1 + 1)), .int .i64 0] 57)).alloc
    (.cells #[.pointer (some ⟨W.heap.size + 1 + 1 + 1 + 1 + 1, 0, none⟩)] 49)
def blks0 (n : Nat) : Blks := ⟨n + 1 + 1 + 1 + 1 + 1, n + 1 + 1 + 1, n + 1 + 1 + 1 + 1, n, n + 1, n + 1 + 1⟩
theorem readerW_is (W : World) : Rd (readerW W) W.heap.size (blks0 W.heap.size) PP.none_ [] 0 ∧ IsBlk (readerW W) (W.heap.size + 1 + 1 + 1 + 1 + 1 + 1) 49 #[.pointer (some ⟨W.heap.size + 1 + 1 + 1 + 1 + 1, 0, none⟩)] ∧ Below W.heap.size W (readerW W) ∧ (readerW W).heap.size = W.heap.size + 1 + 1 + 1 + 1 + 1 + 1 + 1 := by
  obtain ⟨A0, h0⟩ : ∃ A, A = W.alloc (.map #[] 0) := ⟨_, rfl⟩
  obtain ⟨A1, h1⟩ : ∃ A, A = A0.alloc (.map #[] 0) := ⟨_, rfl⟩
  obtain ⟨A2, h2⟩ : ∃ A, A = A1.alloc (.map #[] 0) := ⟨_, rfl⟩
  obtain ⟨A3, h3⟩ : ∃ A, A = A2.alloc (.cells #[.slice none 0 0, .slice none 0 0, .map (some W.heap.size), .map (some (W.heap.size + 1)), .map (some (W.heap.size + 1 + 1))] 54) := ⟨_, rfl⟩
  obtain ⟨A4, h4⟩ : ∃ A, A = A3.alloc (.map #[] 0) := ⟨_, rfl⟩
  obtain ⟨A5, h5⟩ : ∃ A, A = A4.alloc (.cells #[.pointer (some ⟨W.heap.size + 1 + 1 + 1, 0, none⟩), .map (some (W.heap.size + 1 + 1 + 1 + 1)), .int .i64 0] 57) := ⟨_, rfl⟩
  have e : readerW W = A5.alloc (.cells #[.pointer (some ⟨W.heap.size + 1 + 1 + 1 + 1 + 1, 0, none⟩)] 49) := by rw [h5, h4, h3, h2, h1, h0]; rfl
  have s0 : A0.heap.size = W.heap.size + 1 := by rw [h0]; simp
  have s1 : A1.heap.size = W.heap.size + 1 + 1 := by rw [h1, World.size_alloc, s0]
  have s2 : A2.heap.size = W.heap.size + 1 + 1 + 1 := by rw [h2, World.size_alloc, s1]
  have s3 : A3.heap.size = W.heap.size + 1 + 1 + 1 + 1 := by rw [h3, World.size_alloc, s2]
  have s4 : A4.heap.size = W.heap.size + 1 + 1 + 1 + 1 + 1 := by rw [h4, World.size_alloc, s3]
  have s5 : A5.heap.size = W.heap.size + 1 + 1 + 1 + 1 + 1 + 1 := by rw [h5, World.size_alloc, s4]
  have m0 := (((((MapIs.made W Tryz.prog 21 (Value.int .i32)).alloc (.map #[] 0)).alloc (.map #[] 0)).alloc (.cells #[.slice none 0 0, .slice none 0 0, .map (some W.heap.size), .map (some (W.heap.size + 1)), .map (some (W.heap.size + 1 + 1))] 54)).alloc (.map #[] 0)).alloc (.cells #[.pointer (some ⟨W.heap.size + 1 + 1 + 1, 0, none⟩), .map (some (W.heap.size + 1 + 1 + 1 + 1)), .int .i64 0] 57)
  rw [← h0, ← h1, ← h2, ← h3, ← h4, ← h5] at m0
  have m1 := ((((MapIs.made A0 Tryz.prog 21 (Value.int .i32)).alloc (.map #[] 0)).alloc (.cells #[.slice none 0 0, .slice none 0 0, .map (some W.heap.size), .map (some (W.heap.size + 1)), .map (some (W.heap.size + 1 + 1))] 54)).alloc (.map #[] 0)).alloc (.cells #[.pointer (some ⟨W.heap.size + 1 + 1 + 1, 0, none⟩), .map (some (W.heap.size + 1 + 1 + 1 + 1)), .int .i64 0] 57)
  rw [← h1, ← h2, ← h3, ← h4, ← h5, s0] at m1
  have m2 := (((MapIs.made A1 Tryz.prog 98 encPair).alloc (.cells #[.slice none 0 0, .slice none 0 0, .map (some W.heap.size), .map (some (W.heap.size + 1)), .map (some (W.heap.size + 1 + 1))] 54)).alloc (.map #[] 0)).alloc (.cells #[.pointer (some ⟨W.heap.size + 1 + 1 + 1, 0, none⟩), .map (some (W.heap.size + 1 + 1 + 1 + 1)), .int .i64 0] 57)
  rw [← h2, ← h3, ← h4, ← h5, s1] at m2
  have b3 := ((IsBlk.new A2 54 #[.slice none 0 0, .slice none 0 0, .map (some W.heap.size), .map (some (W.heap.size + 1)), .map (some (W.heap.size + 1 + 1))]).alloc (.map #[] 0)).alloc (.cells #[.pointer (some ⟨W.heap.size + 1 + 1 + 1, 0, none⟩), .map (some (W.heap.size + 1 + 1 + 1 + 1)), .int .i64 0] 57)
  rw [← h3, ← h4, ← h5, s2] at b3
  have m4 := (MapIs.made A3 Tryz.prog 21 (Value.int .i32)).alloc (.cells #[.pointer (some ⟨W.heap.size + 1 + 1 + 1, 0, none⟩), .map (some (W.heap.size + 1 + 1 + 1 + 1)), .int .i64 0] 57)
  rw [← h4, ← h5, s3] at m4
  have b5 := IsBlk.new A4 57 #[.pointer (some ⟨W.heap.size + 1 + 1 + 1, 0, none⟩), .map (some (W.heap.size + 1 + 1 + 1 + 1)), .int .i64 0]
  rw [← h5, s4] at b5
  have b6 := IsBlk.new A5 49 #[.pointer (some ⟨W.heap.size + 1 + 1 + 1 + 1 + 1, 0, none⟩)]
  rw [← e, s5] at b6
  have bl : Below W.heap.size W A5 := by
    rw [h5, h4, h3, h2, h1, h0]
    exact ((((((Below.refl _ W).alloc (Nat.le_refl _) _).alloc (by simp) _).alloc (by simp; omega) _).alloc (by simp; omega) _).alloc (by simp; omega) _).alloc (by simp; omega) _
  refine ⟨?_, b6, by rw [e]; exact bl.alloc (by omega) _, by rw [e, World.size_alloc, s5]⟩
  have rd5 : Rd A5 W.heap.size (blks0 W.heap.size) PP.none_ [] 0 := by
    refine ⟨⟨.slice none 0 0, .slice none 0 0, b5, b3, ⟨by simp [PP.none_], .inl ⟨rfl, rfl⟩⟩, ⟨by simp [PP.none_], .inl ⟨rfl, rfl⟩⟩, fun g h => by cases h⟩, ⟨_, m0, .nil⟩, ⟨_, m1, .nil⟩, m2, m4, ?_, ?_, by simp [PP.none_], by simp [PP.none_], by omega⟩
    · unfold blks0; simp only; omega
    · unfold blks0; simp only; omega
  rw [e]
  exact rd5.below ((Below.refl _ A5).alloc (Nat.le_refl _) _)

def LI (w : World) (s : ByteArray) (n0 mb mm B1 B2 B3 : Nat) (k : Nat) (W : World) : Prop :=
  ∃ q ln, linesF (pieces s) 0 PP.none_ [] = linesF ((pieces s).drop k) k q ln ∧ Rd W n0 (blks0 n0) q ln k ∧ Cx W w.heap.size (n0 + 1 + 1 + 1 + 1 + 1 + 1) mb mm (n0 + 1 + 1 + 1 + 1 + 1) ∧ (∃ v, IsBlk W B2 9 #[v]) ∧ Below w.heap.size w W ∧ IsBlk W B1 9 #[.string ⟨#[10]⟩] ∧ IsBlk W B3 3 #[.int .i64 0]
def LX (w : World) (s : ByteArray) (c : Code) (_ : Nat) (W : World) : Prop :=
  c = .ret ∧ ∃ f, linesF (pieces s) 0 PP.none_ [] = .error f ∧ IsBlk W w.heap.size 23 #[.pointer none] ∧ IsBlk W (w.heap.size + 1) 25 #[faultV f] ∧ Below w.heap.size w W

theorem IsBlk.grown_ {w w' : World} {g : Nat} {t : TypeId} {cs : Array Value} {row : Option Nat} (h : IsBlk w g t cs) (hb : w.grownBy w' row) (hg : ∀ r, row = some r → g < r) : IsBlk w' g t cs :=
  h.grown hb (fun e => by have := hg g e.symm; omega)

theorem LI.turn {w : World} {s : ByteArray} {n0 mb mm B1 B2 B3 k : Nat} {W W' : World} {row : Option Nat} (h : LI w s n0 mb mm B1 B2 B3 k W) (hg : W.grownBy W' row) (hn : n0 = w.heap.size + 2) (hm : n0 + 7 ≤ mm) (hmb : mm < mb) (hB : mb < B2)
    (hrow : ∀ r, row = some r → (B2 ≤ r ∧ r ≠ B1 ∧ r ≠ B3) ∧ ∀ cs t fr, W.heap[r]? = some (.cells cs t fr) → t = 9) (h2 : ∃ v, IsBlk W' B2 9 #[v]) : LI w s n0 mb mm B1 B2 B3 k W' := by
  obtain ⟨q, ln, e, hR, hC, _, hl, g1, g3⟩ := h
  have ne : ∀ b, b < B2 → ∀ r, row = some r → b < r := fun b hb r hr => by have := (hrow r hr).1; omega
  refine ⟨q, ln, e, hR.turn hg (fun r hr => ?_), ⟨hC.c2.grown_ hg (ne _ (by omega)), hC.c3.grown_ hg (ne _ (by omega)), hC.cx.grown_ hg (ne _ (by omega)), hC.cm.grown_ hg (ne _ (by omega)), hC.ms.grown hg (fun e => by have := ne mm (by omega) mm e.symm; omega)⟩, h2, hl.grown hg hl.size (fun r e => by have := (hrow r e).1; omega), g1.grown hg (fun e => (hrow B1 e.symm).1.2.1 rfl), g3.grown hg (fun e => (hrow B3 e.symm).1.2.2 rfl)⟩
  have h1 := (hrow r hr).1
  refine ⟨by unfold blks0; simp only; omega, fun cs t fr hh => ?_⟩
  have := (hrow r hr).2 cs t fr hh
  subst this
  decide

theorem LI.own {w : World} {s : ByteArray} {n0 mb mm B1 B2 B3 B : Nat} (hn : n0 = w.heap.size + 2) (hm : n0 + 7 ≤ mm) (hmb : mm < mb) (hB : mb < B2) (hBB : B2 < B ∧ B1 < B ∧ B3 < B) : OwnFrom B (LI w s n0 mb mm B1 B2 B3) := fun k W W' row h hg hr => by
  have h2 := h
  obtain ⟨_, _, _, _, _, ⟨v, hv⟩, _⟩ := h2
  refine h.turn hg hn hm hmb hB (fun r e => ⟨⟨by have := (hr r e).1; omega, by have := (hr r e).1; omega, by have := (hr r e).1; omega⟩, fun cs t fr hh => ?_⟩) ⟨v, hv.grown_ hg (fun r e => by have := (hr r e).1; omega)⟩
  obtain ⟨_, o, ho, hc⟩ := hr r e
  rw [hh] at ho
  cases ho
  cases hc
theorem LI.box {w : World} {s : ByteArray} {n0 mb mm B1 B2 B3 : Nat} (hn : n0 = w.heap.size + 2) (hm : n0 + 7 ≤ mm) (hmb : mm < mb) (hB : mb < B2) (hB1 : B2 ≠ B1) (hB3 : B2 ≠ B3) : AbB B2 (LI w s n0 mb mm B1 B2 B3) := fun k W v h => by
  have h2 := h
  obtain ⟨_, _, _, _, _, ⟨u, hu⟩, _⟩ := h2
  refine h.turn (grownBy_setCell' W B2 v) hn hm hmb hB (fun r e => ?_) ⟨v, hu.set_ 0 v⟩
  cases e
  refine ⟨⟨Nat.le_refl _, hB1, hB3⟩, fun cs t fr hh => ?_⟩
  rw [show W.heap[B2]? = _ from hu] at hh
  cases hh
  rfl
theorem LX.own {w : World} {s : ByteArray} {B : Nat} {c : Code} (hB : w.heap.size + 1 < B) : OwnFrom B (LX w s c) := fun k W W' row h hg hr => by
  obtain ⟨e, f, h1, h2, h3, h4⟩ := h
  exact ⟨e, f, h1, h2.grown_ hg (fun r e => by have := (hr r e).1; omega), h3.grown_ hg (fun r e => by have := (hr r e).1; omega), h4.grown hg h4.size (fun r e => by have := (hr r e).1; omega)⟩
theorem LX.box {w : World} {s : ByteArray} {B2 : Nat} {c : Code} (hB : w.heap.size + 1 < B2) : AbB B2 (LX w s c) := fun k W v h => by
  obtain ⟨e, f, h1, h2, h3, h4⟩ := h
  exact ⟨e, f, h1, h2.far (by simp only; omega) v, h3.far (by simp only; omega) v, h4.setCell (p := ⟨B2, 0, none⟩) (by simp only; omega) v⟩

theorem round_post {w : World} {s : ByteArray} {n0 mb mm B1 B2 B3 B k : Nat} {q : PP} {ln : KN} {x : ByteArray} {W : World} (hn : n0 = w.heap.size + 2) (hm : n0 + 7 ≤ mm) (hmb : mm < mb) (hB : mb < B2) (hB1 : B2 < B1) (hB3 : B2 < B3) (hBB : B1 < B ∧ B3 < B)
    (hx : (pieces s)[k]? = some x) (hlin : linesF (pieces s) 0 PP.none_ [] = linesF ((pieces s).drop k) k q ln) (hC : Cx W w.heap.size (n0 + 1 + 1 + 1 + 1 + 1 + 1) mb mm (n0 + 1 + 1 + 1 + 1 + 1)) (h2 : ∃ v, IsBlk W B2 9 #[v]) (h1 : IsBlk W B1 9 #[.string ⟨#[10]⟩]) (h3 : IsBlk W B3 3 #[.int .i64 0]) (hl : Below w.heap.size w W) :
    ∀ e a W', BodyPost (blks0 n0) n0 w.heap.size (k : Int) (stepF q ln ((k : Int) + 1) (wordsF x)) W e a W' → ownPostL B (KpS B1 B2 B3) (LI w s n0 mb mm B1 B2 B3) (LX w s) k W e a W' := by
  have hdrop : (pieces s).drop k = x :: (pieces s).drop (k + 1) := by
    obtain ⟨hk, e⟩ := List.getElem?_eq_some_iff.1 hx
    rw [List.drop_eq_getElem_cons hk, e]
  have step : linesF (pieces s) 0 PP.none_ [] = match stepF q ln ((k : Int) + 1) (wordsF x) with
      | .error n => .error (n, (k : Int) + 1)
      | .ok p => linesF ((pieces s).drop (k + 1)) ((k : Int) + 1) p.1 p.2 := by rw [hlin, hdrop]; rfl
  have keeps : ∀ {W'}, BKeeps (blks0 n0) w.heap.size W W' → ∀ g t cs, IsBlk W g t cs → n0 + 6 ≤ g → t ≠ 93 → W'.heap[g]? = W.heap[g]? := fun hk g t cs hg hge ht => by
    refine hk.same g hg.lt ?_ ?_ ?_ ?_ ?_ ?_ (by omega) (by omega) (fun cs fr hh => ?_)
    all_goals first
      | (unfold blks0; simp only; omega)
      | skip
    rw [show W.heap[g]? = _ from hg] at hh
    cases hh
    exact ht rfl
  have kf : ∀ {W'}, BKeeps (blks0 n0) w.heap.size W W' → KeepsFrom B W W' := fun hk => ⟨hk.low.size, fun j o hj ho hc => by
    refine (hk.same j (Array.getElem?_eq_some_iff.1 ho).1 ?_ ?_ ?_ ?_ ?_ ?_ (by omega) (by omega) (fun cs fr hh => ?_)).trans ho
    all_goals first
      | (unfold blks0; simp only; omega)
      | skip
    rw [hh] at ho
    cases ho
    cases hc⟩
  obtain ⟨v2, h2⟩ := h2
  intro e a W' hp
  cases e with
  | normal =>
    obtain ⟨p, hst, hR, hk, c2, c3⟩ := hp
    rw [hst] at step
    refine ⟨kf hk, ⟨keeps hk _ _ _ h1 (by omega) (by decide), keeps hk _ _ _ h2 (by omega) (by decide), keeps hk _ _ _ h3 (by omega) (by decide)⟩, p.1, p.2, by rw [step]; rfl, by exact_mod_cast hR, ?_, ⟨v2, (keeps hk _ _ _ h2 (by omega) (by decide)).trans h2⟩, hl.trans hk.low, (keeps hk _ _ _ h1 (by omega) (by decide)).trans h1, (keeps hk _ _ _ h3 (by omega) (by decide)).trans h3⟩
    exact hC.keeps (k := blks0 n0) hk c2 c3 (fun b hb => by unfold blks0; simp only; omega)
  | ret =>
    obtain ⟨n, hst, hk, c2, c3⟩ := hp
    rw [hst] at step
    exact ⟨kf hk, rfl, _, step, c2, c3, hl.trans hk.low⟩
  | exit id => exact hp.elim
  | goto t => exact hp.elim
  | panic ch => exact hp.elim
  | outgrown => exact hp.elim

end Go.Proofs.YtgidpknckbgmbaaGreatDoor
