/- What a store into one of a reader's maps leaves. -/
import Derived.Test.YtgidpknckbgmbaaGreatDoorRd
set_option linter.unusedSimpArgs false
set_option linter.unusedVariables false
namespace Go.Proofs.YtgidpknckbgmbaaGreatDoor
open Go.RowKit

theorem own_grown {base e size n : Nat} {w w' : World} {v : Value} {xs : List Value} {row : Option Nat} (h : w.ownsRow base e size v n xs) (hg : w.grownBy w' row) (hne : ∀ g, v.ownBlock = some g → some g ≠ row) : w'.ownsRow base e size v n xs := by
  obtain ⟨h1, h2 | ⟨g, cap, cur, e1, hb', hgg, r⟩⟩ := h
  · exact ⟨h1, .inl h2⟩
  · exact ⟨h1, .inr ⟨g, cap, cur, e1, hb', (hg.block g (Array.getElem?_eq_some_iff.1 hgg).1 (hne g (by subst e1; rfl))).trans hgg, r⟩⟩

/-- Block b is a map. -/
def IsMapBlk (w : World) (b : Nat) : Prop := ∃ es clock, w.heap[b]? = some (.map es clock)
theorem MapIs.blk {α : Type} {P : Program} {kk : TypeId} {enc : α → Value} {w : World} {b : Nat} {kv : List (α × Value)} (h : MapIs P kk enc w b kv) : IsMapBlk w b := by
  obtain ⟨es, c, h1, _⟩ := h; exact ⟨es, c, h1⟩
theorem RuneMap.blk {n : Nat} {w : World} {b : Nat} {m : List (Int × List Int)} (h : RuneMap n w b m) : IsMapBlk w b := by
  obtain ⟨kv, h1, _⟩ := h; exact h1.blk
theorem IsMapBlk.ne {w : World} {b g : Nat} {t : TypeId} {cs : Array Value} {fr : Nat × Nat} (h : IsMapBlk w b) (h' : w.heap[g]? = some (.cells cs t fr)) : g ≠ b := by
  rintro rfl
  obtain ⟨es, c, h1⟩ := h
  rw [h1] at h'
  cases h'
theorem IsMapBlk.own {base e size n : Nat} {w : World} {b : Nat} {v : Value} {xs : List Value} (hg : IsMapBlk w b) (h : w.ownsRow base e size v n xs) : ∀ g, v.ownBlock = some g → some g ≠ some b := by
  intro g e1 e2
  cases e2
  rcases h.2 with ⟨rfl, _⟩ | ⟨g', cap, cur, rfl, _, hh, _⟩
  · cases e1
  · cases e1
    exact hg.ne hh rfl
theorem RuneMap.turned {w w' : World} {b c : Nat} {m : List (Int × List Int)} (h : RuneMap w.heap.size w b m) (hg : w.grownBy w' (some c)) (hm : IsMapBlk w c) (hne : b ≠ c) : RuneMap w'.heap.size w' b m :=
  h.grown hg (fun e => hne (by cases e; rfl)) (fun g cur fr e hh => by cases e; exact hm.ne hh rfl)
theorem RunesAt.turned {w w' : World} {n₀ c : Nat} {v : Value} {l : List Int} (h : RunesAt n₀ w v l) (hg : w.grownBy w' (some c)) (hm : IsMapBlk w c) (hn : n₀ ≤ w.heap.size) : RunesAt n₀ w' v l :=
  h.keep fun b _ _ hb hh => hg.block b (by omega) (fun e => by cases e; exact hm.ne hh rfl)

theorem Rd.ex_turned {w w' : World} {base : Nat} {k : Blks} {q : PP} {ln : List (Int × Int)} {line : Int} (h : Rd w base k q ln line) {c : Nat} (hg : w.grownBy w' (some c)) (hm : IsMapBlk w c) :
    ∃ vc vk, IsBlk w' k.rb 57 #[.pointer (some ⟨k.bp, 0, none⟩), .map (some k.bl), .int .i64 line] ∧ IsBlk w' k.bp 54 #[vc, vk, .map (some k.bf), .map (some k.bd), .map (some k.bt)] ∧
    OwnRows base w' vc q.classes ∧ OwnRows base w' vk q.kinds ∧ (∀ g, vc.ownBlock = some g → vk.ownBlock ≠ some g) := by
  obtain ⟨vc, vk, h1, h2, h3, h4, h5⟩ := h.ex
  exact ⟨vc, vk, h1.grown hg (fun e => by cases e; exact hm.ne h1 rfl), h2.grown hg (fun e => by cases e; exact hm.ne h2 rfl), own_grown h3 hg (hm.own h3), own_grown h4 hg (hm.own h4), h5⟩

theorem Rd.put_fold {w w' : World} {base : Nat} {k : Blks} {q : PP} {ln : List (Int × Int)} {line : Int} (h : Rd w base k q ln line) (hg : w.grownBy w' (some k.bf)) {m : List (Int × List Int)} (hn : RuneMap w'.heap.size w' k.bf m) : Rd w' base k { q with folds := m } ln line := by
  have hm := h.folds.blk
  have hd := h.dis
  exact ⟨h.ex_turned hg hm, hn, h.decs.turned hg hm (Ne.symm hd.1), MapIs.grown h.pairs hg (fun e => hd.2.1 (Option.some.inj e).symm), MapIs.grown h.lines hg (fun e => hd.2.2.1 (Option.some.inj e).symm), h.dis, h.old, h.nc, h.nk, h.nl⟩
theorem Rd.put_dec {w w' : World} {base : Nat} {k : Blks} {q : PP} {ln : List (Int × Int)} {line : Int} (h : Rd w base k q ln line) (hg : w.grownBy w' (some k.bd)) {m : List (Int × List Int)} (hn : RuneMap w'.heap.size w' k.bd m) : Rd w' base k { q with decomps := m } ln line := by
  have hm := h.decs.blk
  have hd := h.dis
  exact ⟨h.ex_turned hg hm, h.folds.turned hg hm hd.1, hn, MapIs.grown h.pairs hg (fun e => hd.2.2.2.1 (Option.some.inj e).symm), MapIs.grown h.lines hg (fun e => hd.2.2.2.2.1 (Option.some.inj e).symm), h.dis, h.old, h.nc, h.nk, h.nl⟩
theorem Rd.put_pair {w w' : World} {base : Nat} {k : Blks} {q : PP} {ln : List (Int × Int)} {line : Int} (h : Rd w base k q ln line) (hg : w.grownBy w' (some k.bt)) {m : List ((Int × Int) × Int)} (hn : PairMap w' k.bt m) : Rd w' base k { q with pairs := m } ln line := by
  have hm := MapIs.blk h.pairs
  have hd := h.dis
  exact ⟨h.ex_turned hg hm, h.folds.turned hg hm hd.2.1, h.decs.turned hg hm hd.2.2.2.1, hn, MapIs.grown h.lines hg (fun e => hd.2.2.2.2.2 (Option.some.inj e).symm), h.dis, h.old, h.nc, h.nk, h.nl⟩
theorem Rd.put_line {w w' : World} {base : Nat} {k : Blks} {q : PP} {ln : List (Int × Int)} {line : Int} (h : Rd w base k q ln line) (hg : w.grownBy w' (some k.bl)) {m : List (Int × Int)} (hn : LineMap w' k.bl m) : Rd w' base k q m line := by
  have hm := MapIs.blk h.lines
  have hd := h.dis
  exact ⟨h.ex_turned hg hm, h.folds.turned hg hm hd.2.2.1, h.decs.turned hg hm hd.2.2.2.2.1, MapIs.grown h.pairs hg (fun e => hd.2.2.2.2.2 (Option.some.inj e)), hn, h.dis, h.old, h.nc, h.nk, h.nl⟩

/-- A store into one of these maps leaves all that lies below the base as it was, and all that is no cells but these maps. -/
theorem turned_below {w w' : World} {base c : Nat} (hg : w.grownBy w' (some c)) (hb : base ≤ c) (hw : base ≤ w.heap.size) : Below base w w' :=
  (Below.refl base w).grown hg hw (fun g e => by cases e; exact hb)
/-- What a line of the file leaves as it was: all blocks but the reader's own. -/
structure RdKeeps (k : Blks) (w w' : World) : Prop where
  size : w.heap.size ≤ w'.heap.size
  same : ∀ b, b < w.heap.size → b ≠ k.bp → b ≠ k.bf → b ≠ k.bd → b ≠ k.bt → b ≠ k.bl → (∀ cs fr, w.heap[b]? ≠ some (.cells cs 93 fr)) → w'.heap[b]? = w.heap[b]?
theorem RdKeeps.trans {k : Blks} {a b c : World} (h : RdKeeps k a b) (g : RdKeeps k b c) : RdKeeps k a c :=
  ⟨Nat.le_trans h.size g.size, fun i hi h1 h2 h3 h4 h5 h6 => by
    have e := h.same i hi h1 h2 h3 h4 h5 h6
    exact (g.same i (Nat.lt_of_lt_of_le hi h.size) h1 h2 h3 h4 h5 (fun cs fr hh => h6 cs fr (e ▸ hh))).trans e⟩
theorem turned_keeps {k : Blks} {w w' : World} {c : Nat} (hg : w.grownBy w' (some c)) (hc : c = k.bf ∨ c = k.bd ∨ c = k.bt ∨ c = k.bl) : RdKeeps k w w' :=
  ⟨hg.size, fun b hb h1 h2 h3 h4 h5 _ => hg.block b hb (fun e => by cases e; rcases hc with h | h | h | h <;> omega)⟩

/-- What a step leaves that appends to one of the two rows of rows and stores the new slice in the properties: every other block is as it was. -/
theorem add_same {w w1 w6 : World} {vc v6 : Value} {bp i : Nat} (h1 : Below w.heap.size w w1) (hg : w1.grownBy w6 vc.ownBlock) : ∀ b, b < w.heap.size → vc.ownBlock ≠ some b → b ≠ bp → (w6.setCell ⟨bp, i, none⟩ v6).heap[b]? = w.heap[b]? := fun b hb h2 h3 => by
  rw [Below.heap_setCell _ _ _ _ h3, hg.block b (Nat.lt_of_lt_of_le hb h1.size) (fun e => h2 e.symm)]
  exact h1.block b hb

theorem add_base {w w1 w6 : World} {vc v6 : Value} {base bp i : Nat} {n : Nat} {xs : List Value} (h1 : Below w.heap.size w w1) (hg : w1.grownBy w6 vc.ownBlock) (hown : w.ownsRow base 93 3 vc n xs) (hb : base ≤ bp) (hw : base ≤ w.heap.size) :
    Below base w (w6.setCell ⟨bp, i, none⟩ v6) :=
  ((h1.mono hw).grown hg (Nat.le_trans hw h1.size) (fun g e => (World.ownsRow.lt hown g e).1)).setCell (p := ⟨bp, i, none⟩) hb _

theorem add_keeps {k : Blks} {w w1 w6 : World} {vc v6 : Value} {base i : Nat} {n : Nat} {xs : List Value} {cs : Array Value} (h1 : Below w.heap.size w w1) (hg : w1.grownBy w6 vc.ownBlock) (hown : w.ownsRow base 93 3 vc n xs) (_ : IsBlk w k.bp 54 cs) :
    RdKeeps k w (w6.setCell ⟨k.bp, i, none⟩ v6) := by
  refine ⟨Nat.le_trans h1.size (Nat.le_trans hg.size (by simp)), fun b hlt hbp _ _ _ _ hrow => add_same h1 hg b hlt ?_ hbp⟩
  intro e
  rcases hown.2 with ⟨rfl, _⟩ | ⟨g', cap, cur, rfl, _, hh, _⟩
  · simp [Value.ownBlock] at e
  · have e1 : g' = b := by simpa [Value.ownBlock] using e
    subst e1
    exact hrow _ _ hh

theorem own_block_eq {w w' : World} {base e size n : Nat} {v : Value} {xs : List Value} (h : w.ownsRow base e size v n xs) (hs : ∀ g, v.ownBlock = some g → w'.heap[g]? = w.heap[g]?) : w'.ownsRow base e size v n xs := by
  obtain ⟨h1, h2 | ⟨g, cap, cur, e1, hb', hgg, r⟩⟩ := h
  · exact ⟨h1, .inl h2⟩
  · exact ⟨h1, .inr ⟨g, cap, cur, e1, hb', (hs g (by subst e1; rfl)).trans hgg, r⟩⟩

theorem RuneMap.same {w w' : World} {b : Nat} {m : List (Int × List Int)} (h : RuneMap w.heap.size w b m) (hb : w'.heap[b]? = w.heap[b]?) (hr : ∀ g cur fr, g < w.heap.size → w.heap[g]? = some (.cells cur 21 fr) → w'.heap[g]? = w.heap[g]?) (hs : w.heap.size ≤ w'.heap.size) : RuneMap w'.heap.size w' b m := by
  obtain ⟨kv, h1, h2⟩ := h
  exact ⟨kv, h1.of_block hb, h2.mono fun _ _ h => ⟨(h.1.keep fun g cur fr hg hh => hr g cur fr hg hh).more hs, h.2⟩⟩

theorem add_row {w w1 w6 : World} {base : Nat} {k : Blks} {q : PP} {ln : List (Int × Int)} {line : Int} (h : Rd w base k q ln line) {vc vk vo : Value} {rs : List Row} {x : Row} {gg cap i : Nat}
    (r2 : IsBlk w k.bp 54 #[vc, vk, .map (some k.bf), .map (some k.bd), .map (some k.bt)])
    (r3 : OwnRows base w vo rs) (h1 : Below w.heap.size w w1) (hg : w1.grownBy w6 vo.ownBlock) (hown : w6.ownsRow base 93 3 (.slice (some ⟨gg, 0, none⟩) (rs.length + 1) cap) (rs.length + 1) (rs.flatMap rowCells ++ rowCells x)) :
    OwnRows base (w6.setCell ⟨k.bp, i, none⟩ (.slice (some ⟨gg, 0, none⟩) (rs.length + 1) cap)) (.slice (some ⟨gg, 0, none⟩) (rs.length + 1) cap) (rs ++ [x]) ∧
    IsBlk (w6.setCell ⟨k.bp, i, none⟩ (.slice (some ⟨gg, 0, none⟩) (rs.length + 1) cap)) k.bp 54 (#[vc, vk, .map (some k.bf), .map (some k.bd), .map (some k.bt)].setIfInBounds i (.slice (some ⟨gg, 0, none⟩) (rs.length + 1) cap)) ∧
    (∀ b, b < w.heap.size → vo.ownBlock ≠ some b → b ≠ k.bp → (w6.setCell ⟨k.bp, i, none⟩ (.slice (some ⟨gg, 0, none⟩) (rs.length + 1) cap)).heap[b]? = w.heap[b]?) ∧
    RuneMap (w6.setCell ⟨k.bp, i, none⟩ (.slice (some ⟨gg, 0, none⟩) (rs.length + 1) cap)).heap.size (w6.setCell ⟨k.bp, i, none⟩ (.slice (some ⟨gg, 0, none⟩) (rs.length + 1) cap)) k.bf q.folds ∧
    RuneMap (w6.setCell ⟨k.bp, i, none⟩ (.slice (some ⟨gg, 0, none⟩) (rs.length + 1) cap)).heap.size (w6.setCell ⟨k.bp, i, none⟩ (.slice (some ⟨gg, 0, none⟩) (rs.length + 1) cap)) k.bd q.decomps ∧
    PairMap (w6.setCell ⟨k.bp, i, none⟩ (.slice (some ⟨gg, 0, none⟩) (rs.length + 1) cap)) k.bt q.pairs ∧
    LineMap (w6.setCell ⟨k.bp, i, none⟩ (.slice (some ⟨gg, 0, none⟩) (rs.length + 1) cap)) k.bl ln := by
  have hbp := r2.lt
  have same := add_same (i := i) (bp := k.bp) (v6 := .slice (some ⟨gg, 0, none⟩) (rs.length + 1) cap) h1 hg
  have hsz : w.heap.size ≤ (w6.setCell ⟨k.bp, i, none⟩ (.slice (some ⟨gg, 0, none⟩) (rs.length + 1) cap)).heap.size := Nat.le_trans h1.size (Nat.le_trans hg.size (by simp))
  have b6 : IsBlk w6 k.bp 54 #[vc, vk, .map (some k.bf), .map (some k.bd), .map (some k.bt)] := (r2.below h1).grown hg (fun e => own_ne_blk r3 r2 (by decide) e.symm)
  have rune : ∀ g cur fr, g < w.heap.size → w.heap[g]? = some (.cells cur 21 fr) → (w6.setCell ⟨k.bp, i, none⟩ (.slice (some ⟨gg, 0, none⟩) (rs.length + 1) cap)).heap[g]? = w.heap[g]? := fun g cur fr hlt hh => by
    refine same g hlt ?_ ?_
    · intro e
      rcases r3.2 with ⟨rfl, _⟩ | ⟨g', cap, cur', rfl, _, hh', _⟩
      · simp [Value.ownBlock] at e
      · have e1 : g' = g := by simpa [Value.ownBlock] using e
        subst e1
        rw [hh'] at hh
        injection hh with hh
        injection hh with _ ht
        exact absurd ht (by decide)
    · rintro rfl
      unfold IsBlk at r2
      rw [r2] at hh
      injection hh with hh
      injection hh with _ ht
      exact absurd ht (by decide)
  have mapb : ∀ b, IsMapBlk w b → (w6.setCell ⟨k.bp, i, none⟩ (.slice (some ⟨gg, 0, none⟩) (rs.length + 1) cap)).heap[b]? = w.heap[b]? := fun b hm => by
    obtain ⟨es, c, hmm⟩ := id hm
    refine same b (Array.getElem?_eq_some_iff.1 hmm).1 (fun e => hm.own r3 b e rfl) (fun e => hm.ne r2 e.symm)
  refine ⟨?_, b6.set_ i _, same, h.folds.same (mapb _ h.folds.blk) rune hsz, h.decs.same (mapb _ h.decs.blk) rune hsz, MapIs.of_block h.pairs (mapb _ (MapIs.blk h.pairs)), MapIs.of_block h.lines (mapb _ (MapIs.blk h.lines))⟩
  have e1 : (rs ++ [x]).length = rs.length + 1 := by simp
  have e2 : (rs ++ [x]).flatMap rowCells = rs.flatMap rowCells ++ rowCells x := by simp
  unfold OwnRows
  rw [e1, e2]
  refine own_block_eq hown (fun g e => Below.heap_setCell _ _ _ _ ?_)
  rintro rfl
  have e3 : gg = k.bp := by simpa [Value.ownBlock] using e
  exact own_ne_blk hown b6 (by decide) (by rw [e3]; rfl)

theorem Rd.add_class {w w1 w6 : World} {base : Nat} {k : Blks} {q : PP} {ln : List (Int × Int)} {line : Int} (h : Rd w base k q ln line) {vc vk : Value} {x : Row} {gg cap : Nat}
    (r1 : IsBlk w k.rb 57 #[.pointer (some ⟨k.bp, 0, none⟩), .map (some k.bl), .int .i64 line]) (r2 : IsBlk w k.bp 54 #[vc, vk, .map (some k.bf), .map (some k.bd), .map (some k.bt)])
    (r3 : OwnRows base w vc q.classes) (r4 : OwnRows base w vk q.kinds) (r5 : ∀ g, vc.ownBlock = some g → vk.ownBlock ≠ some g) (hcl : (q.classes.length : Int) < line) (h1 : Below w.heap.size w w1) (hg : w1.grownBy w6 vc.ownBlock)
    (hown : w6.ownsRow base 93 3 (.slice (some ⟨gg, 0, none⟩) (q.classes.length + 1) cap) (q.classes.length + 1) (q.classes.flatMap rowCells ++ rowCells x)) (hat : vc.ownBlock = some gg ∨ gg = w1.heap.size) :
    Rd (w6.setCell ⟨k.bp, 0, none⟩ (.slice (some ⟨gg, 0, none⟩) (q.classes.length + 1) cap)) base k { q with classes := q.classes ++ [x] } ln line := by
  obtain ⟨a1, a2, same, a3, a4, a5, a6⟩ := add_row (i := 0) h r2 r3 h1 hg hown
  have vkb : ∀ g, vk.ownBlock = some g → g < w.heap.size := fun g e => (World.ownsRow.lt r4 g e).2
  refine ⟨⟨_, vk, ?_, a2, a1, own_block_eq r4 (fun g e => same g (vkb g e) (fun e2 => r5 g e2 e) (fun e2 => own_ne_blk r4 r2 (by decide) (by rw [e, e2]))), ?_⟩, a3, a4, a5, a6, h.dis, h.old, ?_, h.nk, h.nl⟩
  · exact (same k.rb r1.lt (own_ne_blk r3 r1 (by decide)) (r1.ne_ r2 (by decide))).trans r1
  · intro g e1 e2
    have e3 : gg = g := by simpa [Value.ownBlock] using e1
    subst e3
    rcases hat with hat | hat
    · exact r5 _ hat e2
    · have := vkb _ e2
      have := h1.size
      omega
  · simp; omega

theorem Rd.add_kind {w w1 w6 : World} {base : Nat} {k : Blks} {q : PP} {ln : List (Int × Int)} {line : Int} (h : Rd w base k q ln line) {vc vk : Value} {x : Row} {gg cap : Nat}
    (r1 : IsBlk w k.rb 57 #[.pointer (some ⟨k.bp, 0, none⟩), .map (some k.bl), .int .i64 line]) (r2 : IsBlk w k.bp 54 #[vc, vk, .map (some k.bf), .map (some k.bd), .map (some k.bt)])
    (r3 : OwnRows base w vc q.classes) (r4 : OwnRows base w vk q.kinds) (r5 : ∀ g, vc.ownBlock = some g → vk.ownBlock ≠ some g) (hcl : (q.kinds.length : Int) < line) (h1 : Below w.heap.size w w1) (hg : w1.grownBy w6 vk.ownBlock)
    (hown : w6.ownsRow base 93 3 (.slice (some ⟨gg, 0, none⟩) (q.kinds.length + 1) cap) (q.kinds.length + 1) (q.kinds.flatMap rowCells ++ rowCells x)) (hat : vk.ownBlock = some gg ∨ gg = w1.heap.size) :
    Rd (w6.setCell ⟨k.bp, 1, none⟩ (.slice (some ⟨gg, 0, none⟩) (q.kinds.length + 1) cap)) base k { q with kinds := q.kinds ++ [x] } ln line := by
  obtain ⟨a1, a2, same, a3, a4, a5, a6⟩ := add_row (i := 1) h r2 r4 h1 hg hown
  have vcb : ∀ g, vc.ownBlock = some g → g < w.heap.size := fun g e => (World.ownsRow.lt r3 g e).2
  refine ⟨⟨vc, _, ?_, a2, own_block_eq r3 (fun g e => same g (vcb g e) (fun e2 => r5 g e e2) (fun e2 => own_ne_blk r3 r2 (by decide) (by rw [e, e2]))), a1, ?_⟩, a3, a4, a5, a6, h.dis, h.old, h.nc, ?_, h.nl⟩
  · exact (same k.rb r1.lt (own_ne_blk r4 r1 (by decide)) (r1.ne_ r2 (by decide))).trans r1
  · intro g e1 e2
    have e3 : gg = g := by simpa [Value.ownBlock] using e2
    subst e3
    rcases hat with hat | hat
    · exact r5 _ e1 hat
    · have := vcb _ e1
      have := h1.size
      omega
  · simp; omega

end Go.Proofs.YtgidpknckbgmbaaGreatDoor
