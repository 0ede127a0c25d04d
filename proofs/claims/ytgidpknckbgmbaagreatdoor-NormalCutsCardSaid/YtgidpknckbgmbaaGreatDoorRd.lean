/- props.three, points, some: the words of a line. props.points: the points that words tell. props.some: the points of a line of fold or decomp. The reader of a file of properties in memory, while the lines are read. -/
import Derived.Test.YtgidpknckbgmbaaGreatDoorSpan
import Derived.RangeFuncWrites
import Derived.Deep.AppendLies
set_option linter.unusedSimpArgs false
set_option linter.unusedVariables false
namespace Go.Proofs.YtgidpknckbgmbaaGreatDoor
open Go.RowKit

/-- The slice value sv reads as the words ws, each of which is short. -/
structure StrsAt (w : World) (b off cap : Nat) (ws : List ByteArray) : Prop where
  lt : b < w.heap.size
  le : ws.length ≤ cap
  hmax : cap ≤ maxLen
  cell : ∀ j x, ws[j]? = some x → w.cell? ⟨b, off + j, none⟩ = some (.string x)
  short : ∀ x ∈ ws, x.size ≤ 1048576
  few : ws.length ≤ 1048576
theorem StrsAt.below {w w' : World} {b off cap : Nat} {ws : List ByteArray} (h : StrsAt w b off cap ws) (hb : Below w.heap.size w w') : StrsAt w' b off cap ws :=
  ⟨Nat.lt_of_lt_of_le h.lt hb.size, h.le, h.hmax, fun j x hj => (hb.cell (p := ⟨b, off + j, none⟩) h.lt).trans (h.cell j x hj), h.short, h.few⟩
def strsV (b off cap : Nat) (ws : List ByteArray) : Value := .slice (some ⟨b, off, none⟩) ws.length cap

def threeF (ws : List ByteArray) : Except Int (Int × Int) :=
  if ws.length < 3 then .error 2 else if 3 < ws.length then .error 3 else spanF (ws.getD 1 ByteArray.empty).data.toList

set_option maxHeartbeats 400000 in
set_option maxRecDepth 100000 in
theorem three_any (b cap : Nat) (ws : List ByteArray) (w : World) (hs : StrsAt w b 0 cap ws) (hg : Gl w) :
    Calls Tryz.prog 46 #[.slice (some ⟨b, 0, none⟩) ws.length cap] w fun e w' => e = .returned (spanV (threeF ws)) ∧ Below w.heap.size w w' := by
  have hcap := hs.le
  have hb0 : ∀ o, Below w.heap.size w (w.alloc o) := fun o => (Below.refl _ _).alloc (Nat.le_refl _) o
  have few := hs.few
  by_cases h1 : ws.length < 3
  · have hv : spanV (threeF ws) = .tuple #[.agg #[.int .i32 0, .int .i32 0], errV 2] := by simp [threeF, h1, spanV]
    rw [hv]
    clear hv
    have HB := Lib.hid hb0
    clear hb0
    generalize ws.length = n at *
    go_enter Tryz.func46, Tryz.ntmps46
    go_wp2
    exact bodyPost_ret (v := .tuple #[.agg #[.int .i32 0, .int .i32 0], errV 2]) (by simp [results, Tryz.results46, go_sem, errV]) rfl ⟨rfl, HB.out _⟩
  · by_cases h2 : 3 < ws.length
    · have hv : spanV (threeF ws) = .tuple #[.agg #[.int .i32 0, .int .i32 0], errV 3] := by simp [threeF, h1, h2, spanV]
      rw [hv]
      clear hv
      have h1' : 3 ≤ ws.length := by omega
      have HB := Lib.hid hb0
      clear hb0
      generalize ws.length = n at *
      go_enter Tryz.func46, Tryz.ntmps46
      go_wp2
      exact bodyPost_ret (v := .tuple #[.agg #[.int .i32 0, .int .i32 0], errV 3]) (by simp [results, Tryz.results46, go_sem, errV]) rfl ⟨rfl, HB.out _⟩
    · have h3 : ws.length = 3 := by omega
      obtain ⟨x, hx⟩ : ∃ x, ws[1]? = some x := ⟨_, List.getElem?_eq_getElem (by omega)⟩
      have hv : threeF ws = spanF x.data.toList := by unfold threeF; rw [if_neg h1, if_neg h2, List.getD, hx]; rfl
      rw [hv, h3]
      have hxs := hs.short x (List.mem_of_getElem? hx)
      have hc1 := hs.cell 1 x hx
      have hcA : ∀ o, (w.alloc o).cell? ⟨b, 1, none⟩ = some (.string x) := fun o => (World.cell?_alloc_lt w o ⟨b, 1, none⟩ hs.lt).trans (by simpa using hc1)
      have hS := fun o => span_any x (w.alloc o) hxs (hg.below (hb0 o))
      rw [h3] at hcap
      have HS := Lib.hid hS
      have HB := Lib.hid hb0
      clear hS hb0 hv h3 hx hxs hc1 h1 h2 few hs hg
      cases hsf : spanF x.data.toList with
      | error n =>
        go_enter Tryz.func46, Tryz.ntmps46
        go_wp2_with fail
        refine (HS.out _).mono ?_
        rintro e w2 ⟨rfl, hb2⟩
        rw [hsf]
        unfold spanV
        have k2 := (IsBlk.new w 87 #[.int .i32 0, .int .i32 0]).below hb2
        have hz2 := k2.lt
        obtain ⟨c0, c1, f0, f1⟩ := k2.two
        go_wp2
        exact bodyPost_ret (v := .tuple #[.agg #[.int .i32 0, .int .i32 0], errV n]) (by simp [results, Tryz.results46, go_sem, c0, c1]) rfl ⟨rfl, ((bt (HB.out _) hb2).setCell (p := ⟨w.heap.size, 0, none⟩) (Nat.le_refl _) _).setCell (p := ⟨w.heap.size, 1, none⟩) (Nat.le_refl _) _⟩
      | ok p =>
        go_enter Tryz.func46, Tryz.ntmps46
        go_wp2_with fail
        refine (HS.out _).mono ?_
        rintro e w2 ⟨rfl, hb2⟩
        rw [hsf]
        unfold spanV
        have k2 := (IsBlk.new w 87 #[.int .i32 0, .int .i32 0]).below hb2
        have hz2 := k2.lt
        obtain ⟨c0, c1, f0, f1⟩ := k2.two
        go_wp2
        exact bodyPost_ret (v := .tuple #[.agg #[.int .i32 p.1, .int .i32 p.2], .nilIface]) (by simp [results, Tryz.results46, go_sem, c0, c1]) rfl ⟨rfl, ((bt (HB.out _) hb2).setCell (p := ⟨w.heap.size, 0, none⟩) (Nat.le_refl _) _).setCell (p := ⟨w.heap.size, 1, none⟩) (Nat.le_refl _) _⟩

end Go.Proofs.YtgidpknckbgmbaaGreatDoor

namespace Go.Proofs.YtgidpknckbgmbaaGreatDoor
open Go.RowKit

def ptsF : List ByteArray → Except Int (List Int)
  | [] => .ok []
  | s :: r => match numF s.data.toList with
    | none => .error 11
    | some x => if isChar x then (ptsF r).map (x :: ·) else .error 8
theorem ptsF_len : ∀ {ws : List ByteArray} {l : List Int}, ptsF ws = .ok l → l.length = ws.length ∧ ∀ x ∈ l, isChar x = true
  | [], l, h => by cases h; simp
  | s :: r, l, h => by
    unfold ptsF at h
    cases hn : numF s.data.toList with
    | none => rw [hn] at h; cases h
    | some x =>
      rw [hn] at h
      cases hc : isChar x with
      | false => simp [hc] at h
      | true =>
        simp only [hc, if_true] at h
        cases hr : ptsF r with
        | error n => rw [hr] at h; cases h
        | ok l' =>
          rw [hr] at h
          cases h
          obtain ⟨h1, h2⟩ := ptsF_len hr
          exact ⟨by simp [h1], by simpa [hc] using h2⟩

def PtsPost (w : World) (o : Except Int (List Int)) (e : Ending) (w' : World) : Prop :=
  Below w.heap.size w w' ∧ match o with
    | .ok l => ∃ v, e = .returned (.tuple #[v, .nilIface]) ∧ OwnRunes w.heap.size w' v l
    | .error n => e = .returned (.tuple #[.slice none 0 0, errV n])

theorem isChar_i32 {x : Int} (h : isChar x = true) : I32 x := by unfold isChar at h; unfold I32; simp at h; omega

theorem bt' {n : Nat} {a b c : World} (h : Below n a b) (k : Below b.heap.size b c) (hn : n ≤ b.heap.size := by assumption) : Below n a c := h.trans (k.mono hn)

set_option maxHeartbeats 400000 in
set_option maxRecDepth 100000 in
theorem points_any (b off cap : Nat) (ws : List ByteArray) (w : World) (hs : StrsAt w b off cap ws) :
    Calls Tryz.prog 75 #[.slice (some ⟨b, off, none⟩) ws.length cap] w (PtsPost w (ptsF ws)) := by
  have hcap := hs.le
  have few := hs.few
  obtain ⟨i0, hi, hz0, hz1, hz2⟩ := info_parts infoR
  have HS := Lib.hid hs
  clear hs
  go_enter Tryz.func75, Tryz.ntmps75
  go_wp2
  go_loopw [4, 11] (fun v i wr => ∃ (k : Nat) (acc : List Int), k ≤ ws.length ∧ i = .int .i64 k ∧ acc.length = k ∧ OwnRunes w.heap.size wr v acc ∧ Hid (ptsF ws = (ptsF (ws.drop k)).map (acc ++ ·)) ∧ Below w.heap.size w wr)
    (fun _ i _ => ws.length - (intOf i).toNat)
  case atStart => exact ⟨0, [], by omega, rfl, rfl, OwnRunes.nil _ _, by show _ = _; cases h : ptsF ws <;> simp [h, Except.map], Below.refl _ _⟩
  case round =>
    obtain ⟨k, acc, hk, rfl, hacc, hown, hF, hB⟩ := hrel
    by_cases hlt : k < ws.length
    · obtain ⟨x, hx⟩ : ∃ x, ws[k]? = some x := ⟨_, List.getElem?_eq_getElem hlt⟩
      have hxs := HS.out.short x (List.mem_of_getElem? hx)
      have hc := (HS.out.below hB).cell k x hx
      have hdrop : ws.drop k = x :: ws.drop (k + 1) := by
        rw [List.drop_eq_getElem_cons hlt]; rw [List.getElem?_eq_getElem hlt] at hx; rw [Option.some.inj hx]
      have hN := fun w => number_any x w hxs
      have HN := Lib.hid hN
      have hw0 : w.heap.size ≤ wr.heap.size := hB.size
      cases hnum : numF x.data.toList with
      | none =>
        have hfin : ptsF ws = .error 11 := by rw [hF.out, hdrop]; simp [ptsF, hnum, Except.map]
        have HFIN := Lib.hid hfin
        clear hfin hdrop hF hN
        go_wp2_with (go_at_call 87; refine (HN.out _).mono ?_; rintro e w2 ⟨rfl, hb2⟩)
        go_ret2
        exact ⟨bt' hB hb2, by rw [HFIN.out]; rfl⟩
      | some y =>
        cases hch : isChar y with
        | false =>
          have hfin : ptsF ws = .error 8 := by rw [hF.out, hdrop]; simp [ptsF, hnum, hch, Except.map]
          have HFIN := Lib.hid hfin
          clear hfin hdrop hF hN
          go_wp2_with (first
            | (go_at_call 87; refine (HN.out _).mono ?_; rintro e w2 ⟨rfl, hb2⟩)
            | (go_at_call 60; refine (character_any _ _).mono ?_; rintro e w3 ⟨rfl, rfl⟩))
          go_ret2
          exact ⟨bt' hB hb2, by rw [HFIN.out]; rfl⟩
        | true =>
          have hfin : ptsF ws = (ptsF (ws.drop (k + 1))).map ((acc ++ [y]) ++ ·) := by
            rw [hF.out, hdrop]
            simp [ptsF, hnum, hch]
            cases ptsF (ws.drop (k + 1)) <;> simp [Except.map]
          have HFIN := Lib.hid hfin
          clear hfin hdrop hF hN
          go_wp2_with (first
            | (go_at_call 87; refine (HN.out _).mono ?_; rintro e w2 ⟨rfl, hb2⟩; have hown2 := hown.below hb2 (Nat.le_refl _); have hw2 := Nat.le_trans hw0 hb2.size)
            | (go_at_call 60; refine (character_any _ _).mono ?_; rintro e w3 ⟨rfl, rfl⟩)
            | (at_builtin; (refine wpList_append_rune _ rfl _ _ rfl w.heap.size _ acc rfl (hown2.alloc _) w2.heap.size y rfl (cell_new _ _ _) (by omega) (by simp; omega) ?_); intro v3 w3 hown3 hgrow3))
          go_roundw
          case rel => exact ⟨k + 1, acc ++ [y], by omega, by go_num, by simp; omega, hown3, HFIN, (((bt' hB hb2).alloc hw2 _).grown hgrow3 (by simp; omega) (fun g hg => (World.ownsRow.lt hown2 g hg).1))⟩
          case measure => simp [intOf]; omega
    · obtain rfl : k = ws.length := by omega
      go_wp2
      go_ret2
      refine ⟨hB, ?_⟩
      have hfin : ptsF ws = .ok acc := by rw [hF.out, List.drop_length]; simp [ptsF, Except.map]
      rw [hfin]
      exact ⟨_, rfl, hown⟩

end Go.Proofs.YtgidpknckbgmbaaGreatDoor

namespace Go.Proofs.YtgidpknckbgmbaaGreatDoor
open Go.RowKit

def someF (ws : List ByteArray) : Except Int (List Int) :=
  if ws.length < 3 then .error 2 else if 10 < ws.length then .error 5 else ptsF (ws.drop 1)

theorem StrsAt.drop1 {w : World} {b off cap : Nat} {ws : List ByteArray} (h : StrsAt w b off cap ws) (hc : 1 ≤ ws.length) : StrsAt w b (off + 1) (cap - 1) (ws.drop 1) :=
  ⟨h.lt, by have := h.le; simp; omega, by have := h.hmax; omega, fun j x hj => by
    rw [List.getElem?_drop] at hj
    have := h.cell (1 + j) x hj
    rw [Nat.add_assoc]; exact this, fun x hx => h.short x (List.mem_of_mem_drop hx), by have := h.few; simp; omega⟩

set_option maxHeartbeats 400000 in
set_option maxRecDepth 100000 in
theorem some_any (b cap : Nat) (ws : List ByteArray) (w : World) (hs : StrsAt w b 0 cap ws) :
    Calls Tryz.prog 50 #[.slice (some ⟨b, 0, none⟩) ws.length cap] w (PtsPost w (someF ws)) := by
  have hcap := hs.le
  have few := hs.few
  by_cases h1 : ws.length < 3
  · have hv : someF ws = .error 2 := by simp [someF, h1]
    have HV := Lib.hid hv
    clear hv hs
    generalize hn : ws.length = n at *
    have HN := Lib.hid hn
    clear hn
    go_enter Tryz.func50, Tryz.ntmps50
    go_wp2
    go_ret2
    rw [HV.out]
    exact ⟨Below.refl _ _, rfl⟩
  · by_cases h2 : 10 < ws.length
    · have hv : someF ws = .error 5 := by simp [someF, h1, h2]
      have HV := Lib.hid hv
      clear hv hs
      have h1' : 3 ≤ ws.length := by omega
      generalize hn : ws.length = n at *
      have HN := Lib.hid hn
      clear hn
      go_enter Tryz.func50, Tryz.ntmps50
      go_wp2
      go_ret2
      rw [HV.out]
      exact ⟨Below.refl _ _, rfl⟩
    · have hv : someF ws = ptsF (ws.drop 1) := by unfold someF; rw [if_neg h1, if_neg h2]
      rw [hv]
      have hP := points_any b (0 + 1) (cap - 1) (ws.drop 1) w (hs.drop1 (by omega))
      have hl : (ws.drop 1).length = ws.length - 1 := by simp
      rw [hl] at hP
      have hc1 : 1 < cap := by omega
      have h1' : 3 ≤ ws.length := by omega
      have h2' : ws.length ≤ 10 := by omega
      have hmax := hs.hmax
      have HP := Lib.hid hP
      clear hP hv hl hs h1 h2 few
      generalize ws.length = n at *
      generalize ptsF (ws.drop 1) = o at *
      cases o with
      | error m =>
        go_enter Tryz.func50, Tryz.ntmps50
        go_wp2_with (go_at_call 75; refine HP.out.mono ?_; rintro e w2 ⟨hb2, rfl⟩)
        go_ret2
        exact ⟨hb2, rfl⟩
      | ok l =>
        go_enter Tryz.func50, Tryz.ntmps50
        go_wp2_with (go_at_call 75; refine HP.out.mono ?_; rintro e w2 ⟨hb2, v, rfl, ho⟩)
        go_ret2
        exact ⟨hb2, _, rfl, ho⟩

end Go.Proofs.YtgidpknckbgmbaaGreatDoor

namespace Go.Proofs.YtgidpknckbgmbaaGreatDoor
open Go.RowKit

/-- The blocks of a reader: itself, the properties, the lines of decompositions, folds, decompositions, pairs. -/
structure Blks where
  rb : Nat
  bp : Nat
  bl : Nat
  bf : Nat
  bd : Nat
  bt : Nat

def rowCells (x : Row) : List Value := [.int .i32 x.1, .int .i32 x.2.1, .int .i64 x.2.2]
/-- The slice v owns the rows rs, in a block from base on. -/
def OwnRows (base : Nat) (w : World) (v : Value) (rs : List Row) : Prop := w.ownsRow base 93 3 v rs.length (rs.flatMap rowCells)
def LineMap (w : World) (b : Nat) (m : List (Int × Int)) : Prop := MapIs Tryz.prog 21 (Value.int .i32) w b (m.map fun p => (p.1, .int .i64 p.2))

structure Rd (w : World) (base : Nat) (k : Blks) (q : PP) (ln : List (Int × Int)) (line : Int) : Prop where
  ex : ∃ vc vk, IsBlk w k.rb 57 #[.pointer (some ⟨k.bp, 0, none⟩), .map (some k.bl), .int .i64 line] ∧ IsBlk w k.bp 54 #[vc, vk, .map (some k.bf), .map (some k.bd), .map (some k.bt)] ∧
    OwnRows base w vc q.classes ∧ OwnRows base w vk q.kinds ∧ (∀ g, vc.ownBlock = some g → vk.ownBlock ≠ some g)
  folds : RuneMap w.heap.size w k.bf q.folds
  decs : RuneMap w.heap.size w k.bd q.decomps
  pairs : PairMap w k.bt q.pairs
  lines : LineMap w k.bl ln
  dis : k.bf ≠ k.bd ∧ k.bf ≠ k.bt ∧ k.bf ≠ k.bl ∧ k.bd ≠ k.bt ∧ k.bd ≠ k.bl ∧ k.bt ≠ k.bl
  old : base ≤ k.rb ∧ base ≤ k.bp ∧ base ≤ k.bl ∧ base ≤ k.bf ∧ base ≤ k.bd ∧ base ≤ k.bt
  nc : (q.classes.length : Int) ≤ line
  nk : (q.kinds.length : Int) ≤ line
  nl : 0 ≤ line ∧ line ≤ 1048577

theorem own_below {base B e size n : Nat} {w w' : World} {v : Value} {xs : List Value} (h : w.ownsRow base e size v n xs) (hb : Below B w w') (hB : w.heap.size ≤ B) : w'.ownsRow base e size v n xs := by
  obtain ⟨h1, h2 | ⟨g, cap, cur, e, hb', hg, r⟩⟩ := h
  · exact ⟨h1, .inl h2⟩
  · exact ⟨h1, .inr ⟨g, cap, cur, e, hb', (hb.block g (Nat.lt_of_lt_of_le (Array.getElem?_eq_some_iff.1 hg).1 hB)).trans hg, r⟩⟩

theorem Rd.below {w w' : World} {base : Nat} {k : Blks} {q : PP} {ln : List (Int × Int)} {line : Int} (h : Rd w base k q ln line) (hb : Below w.heap.size w w') : Rd w' base k q ln line := by
  obtain ⟨⟨vc, vk, h1, h2, h3, h4, h5⟩, h6, h7, h8, h9, h10, h11, h12, h13, h14⟩ := h
  exact ⟨⟨vc, vk, h1.below hb, h2.below hb, own_below h3 hb (Nat.le_refl _), own_below h4 hb (Nat.le_refl _), h5⟩, h6.below hb, h7.below hb, MapIs.below h8 hb h8.lt, MapIs.below h9 hb h9.lt, h10, h11, h12, h13, h14⟩

theorem IsBlk.cell {w : World} {g : Nat} {t : TypeId} {cs : Array Value} (h : IsBlk w g t cs) (i : Nat) : w.cell? ⟨g, i, none⟩ = cs[i]? := by unfold IsBlk at h; simp [World.cell?, h]
theorem IsBlk.frozen {w : World} {g : Nat} {t : TypeId} {cs : Array Value} (h : IsBlk w g t cs) (i : Nat) : w.frozen? ⟨g, i, none⟩ = false := by unfold IsBlk at h; simp [World.frozen?, h]
theorem IsBlk.alloc {w : World} {g : Nat} {t : TypeId} {cs : Array Value} (h : IsBlk w g t cs) (o : Obj) : IsBlk (w.alloc o) g t cs := (Below.heap_alloc w o g h.lt).trans h
theorem IsBlk.set_ {w : World} {g : Nat} {t : TypeId} {cs : Array Value} (h : IsBlk w g t cs) (i : Nat) (u : Value) : IsBlk (w.setCell ⟨g, i, none⟩ u) g t (cs.setIfInBounds i u) := by
  unfold IsBlk at h ⊢
  simp [World.setCell, Array.getElem?_modify, h]
theorem IsBlk.far {w : World} {g : Nat} {t : TypeId} {cs : Array Value} (h : IsBlk w g t cs) {p : Addr} (hp : g ≠ p.block) (u : Value) : IsBlk (w.setCell p u) g t cs := (Below.heap_setCell w p u g hp).trans h
theorem IsBlk.grown {w w' : World} {g : Nat} {t : TypeId} {cs : Array Value} {row : Option Nat} (h : IsBlk w g t cs) (hb : w.grownBy w' row) (hg : some g ≠ row) : IsBlk w' g t cs := (hb.block g h.lt hg).trans h
theorem IsBlk.ne_ {w : World} {g g' : Nat} {t t' : TypeId} {cs cs' : Array Value} (h : IsBlk w g t cs) (h' : IsBlk w g' t' cs') (hne : t ≠ t') : g ≠ g' := by
  rintro rfl
  unfold IsBlk at h h'
  rw [h] at h'
  injection h' with h'
  injection h' with _ ht
  exact hne ht
theorem IsBlk.ne_map {α : Type} {w : World} {P : Program} {kk : TypeId} {enc : α → Value} {g b : Nat} {t : TypeId} {cs : Array Value} {kv : List (α × Value)} (h : IsBlk w g t cs) (h' : MapIs P kk enc w b kv) : g ≠ b := by
  rintro rfl
  obtain ⟨es, c, h1, _⟩ := h'
  unfold IsBlk at h
  rw [h] at h1
  cases h1
theorem own_ne_blk {base e size n : Nat} {w : World} {g : Nat} {t : TypeId} {cs : Array Value} {v : Value} {xs : List Value} (h : w.ownsRow base e size v n xs) (hg : IsBlk w g t cs) (hne : e ≠ t) : v.ownBlock ≠ some g := by
  rcases h.2 with ⟨rfl, _⟩ | ⟨g', cap, cur, rfl, _, hh, _⟩
  · simp [Value.ownBlock]
  · intro he
    have e1 : g' = g := by simpa [Value.ownBlock] using he
    subst e1
    exact IsBlk.ne_ (t := e) hh hg hne rfl
theorem own_ne_map {α : Type} {P : Program} {kk : TypeId} {enc : α → Value} {kv : List (α × Value)} {base e size n : Nat} {w : World} {b : Nat} {v : Value} {xs : List Value} (h : w.ownsRow base e size v n xs) (hg : MapIs P kk enc w b kv) : v.ownBlock ≠ some b := by
  rcases h.2 with ⟨rfl, _⟩ | ⟨g', cap, cur, rfl, _, hh, _⟩
  · simp [Value.ownBlock]
  · intro he
    have e1 : g' = b := by simpa [Value.ownBlock] using he
    subst e1
    exact IsBlk.ne_map (t := e) (cs := cur) hh hg rfl

theorem infoRow : (Tryz.prog.info? 93).map (fun i => (i.zero, i.size, i.bytes)) = some (some (.agg #[.int .i32 0, .int .i32 0, .int .i64 0]), 3, 16) := by kernel_rfl

/-- A map of rows of points stays what it is while one block that is no map, and no block of points, is turned. -/
theorem RuneMap.grown {w w' : World} {b : Nat} {m : List (Int × List Int)} {row : Option Nat} (h : RuneMap w.heap.size w b m) (hg : w.grownBy w' row) (hne : some b ≠ row) (hr : ∀ g cur fr, row = some g → w.heap[g]? ≠ some (.cells cur 21 fr)) : RuneMap w'.heap.size w' b m := by
  obtain ⟨kv, h1, h2⟩ := h
  refine ⟨kv, h1.grown hg hne, h2.mono fun _ _ h => ⟨(h.1.keep fun b cur fr hb hh => hg.block b hb (fun e => hr b cur fr e.symm hh)).more hg.size, h.2⟩⟩

end Go.Proofs.YtgidpknckbgmbaaGreatDoor
