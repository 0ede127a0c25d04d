/- How properties lie in memory; class and kind of a point: the Go code answers what the plain functions answer. slices.Clone at runes; the decomposition of a point. -/
import Derived.Test.YtgidpknckbgmbaaGreatDoorSaid
import Derived.Test.YtgidpknckbgmbaaGreatDoorMaps
import Derived.Deep.QuietTactic
import Derived.BigQuiet
import Derived.Lib.Hide
set_option linter.unusedSimpArgs false
set_option linter.unusedVariables false
namespace Go.Proofs.YtgidpknckbgmbaaGreatDoor
open Go.RowKit
open Go.Maps (Keyed)

theorem kr : Keyed Tryz.prog 21 := Go.Maps.int_keyed Tryz.underlying21
theorem ki : Keyed Tryz.prog 3 := Go.Maps.int_keyed Tryz.underlying3

/-- Properties, plainly. -/
structure PP where
  classes : List Row
  kinds : List Row
  folds : List (Int × List Int)
  decomps : List (Int × List Int)
  pairs : List ((Int × Int) × Int)

def PP.cls (q : PP) (r : Int) : Int := if !isChar r || isSyl r || isJamo r then 0 else saidF q.classes r 0
def PP.kind (q : PP) (r : Int) : Int := if !isChar r then 0 else saidF q.kinds r (if isSyl r then 1 else 0)
def sylD (r : Int) : List Int := if 0 < (r - 44032) % 28 then [4352 + (r - 44032) / 588, 4449 + (r - 44032) / 28 % 21, 4519 + (r - 44032) % 28] else [4352 + (r - 44032) / 588, 4449 + (r - 44032) / 28 % 21]
def PP.dec (q : PP) (r : Int) : List Int := if isSyl r then sylD r else (getKV q.decomps r).getD []
def PP.fold (q : PP) (r : Int) : List Int := (getKV q.folds r).getD [r]
def PP.comp (q : PP) (a b : Int) : Option Int :=
  if 4352 ≤ a ∧ a < 4371 ∧ 4449 ≤ b ∧ b < 4470 then some (44032 + ((a - 4352) * 21 + b - 4449) * 28)
  else if isSyl a = true ∧ (a - 44032) % 28 = 0 ∧ 4519 < b ∧ b < 4547 then some (a + b - 4519)
  else if q.cls a ≠ 0 then none else getKV q.pairs (a, b)

/-- A number of type int32. -/
def I32 (x : Int) : Prop := -2147483648 ≤ x ∧ x ≤ 2147483647
theorem I32.wf {x : Int} (h : I32 x) : (Lit.int .i32 x).wf = true := by obtain ⟨h1, h2⟩ := h; exact WalkArith.wf_i32 (by omega)

/-- The slice value sv reads as the numbers l, in a block below n₀. -/
def RunesAt (n₀ : Nat) (W : World) (sv : Value) (l : List Int) : Prop :=
  (sv = .slice none 0 0 ∧ l = []) ∨ ∃ b off cap cur fr, sv = .slice (some ⟨b, off, none⟩) l.length cap ∧ l.length ≤ cap ∧ cap ≤ maxLen ∧ b < n₀ ∧ W.heap[b]? = some (.cells cur 21 fr) ∧ ∀ j x, l[j]? = some x → cur[off + j]? = some (.int .i32 x)
theorem RunesAt.cases {n₀ : Nat} {W : World} {sv : Value} {l : List Int} : RunesAt n₀ W sv l → (sv = .slice none 0 0 ∧ l = []) ∨ ∃ b off cap, sv = .slice (some ⟨b, off, none⟩) l.length cap ∧ l.length ≤ cap ∧ cap ≤ maxLen ∧ b < n₀ ∧ ∀ j x, l[j]? = some x → W.cell? ⟨b, off + j, none⟩ = some (.int .i32 x)
  | .inl e => .inl e
  | .inr ⟨b, off, cap, cur, fr, e, hc, hm, hb, hh, hx⟩ => .inr ⟨b, off, cap, e, hc, hm, hb, fun j x hj => by unfold World.cell?; rw [hh]; exact hx j x hj⟩
theorem RunesAt.keep {n₀ : Nat} {A B : World} (h : ∀ b cur fr, b < n₀ → A.heap[b]? = some (.cells cur 21 fr) → B.heap[b]? = A.heap[b]?) {sv : Value} {l : List Int} : RunesAt n₀ A sv l → RunesAt n₀ B sv l
  | .inl e => .inl e
  | .inr ⟨b, off, cap, cur, fr, e, hc, hm, hb, hh, hx⟩ => .inr ⟨b, off, cap, cur, fr, e, hc, hm, hb, (h b cur fr hb hh).trans hh, hx⟩
theorem RunesAt.below {n₀ : Nat} {A B : World} (h : Below n₀ A B) {sv : Value} {l : List Int} (r : RunesAt n₀ A sv l) : RunesAt n₀ B sv l := r.keep fun _ _ _ hp _ => h.block _ hp
theorem RunesAt.more {n₀ n₁ : Nat} {A : World} (hn : n₀ ≤ n₁) {sv : Value} {l : List Int} : RunesAt n₀ A sv l → RunesAt n₁ A sv l
  | .inl e => .inl e
  | .inr ⟨b, off, cap, cur, fr, e, hc, hm, hb, hx⟩ => .inr ⟨b, off, cap, cur, fr, e, hc, hm, by omega, hx⟩

/-- A map of rows of points. -/
def RuneMap (n₀ : Nat) (w : World) (b : Nat) (m : List (Int × List Int)) : Prop :=
  ∃ kv, MapIs Tryz.prog 21 (Value.int .i32) w b kv ∧ RelKV (fun l v => RunesAt n₀ w v l ∧ l ≠ [] ∧ l.length ≤ 8) m kv
/-- A map of numbers by points. -/
def encPair (p : Int × Int) : Value := .agg #[.int .i32 p.1, .int .i32 p.2]
def PairMap (w : World) (b : Nat) (m : List ((Int × Int) × Int)) : Prop :=
  MapIs Tryz.prog 98 encPair w b (m.map fun p => (p.1, .int .i32 p.2))

/-- Block bp holds properties. -/
structure PropsAt (w : World) (bp : Nat) (q : PP) : Prop where
  ex : ∃ vc vk bf bd bt, w.heap[bp]? = some (.cells #[vc, vk, .map (some bf), .map (some bd), .map (some bt)] 54 (0, 0)) ∧ RowsAt w.heap.size w vc q.classes ∧ RowsAt w.heap.size w vk q.kinds ∧
    RuneMap w.heap.size w bf q.folds ∧ RuneMap w.heap.size w bd q.decomps ∧ PairMap w bt q.pairs
  nc : q.classes.length ≤ 1048577
  nk : q.kinds.length ≤ 1048577

theorem PropsAt.lt {w : World} {bp : Nat} {q : PP} (h : PropsAt w bp q) : bp < w.heap.size := by
  obtain ⟨vc, vk, bf, bd, bt, h1, _⟩ := h.ex
  exact (Array.getElem?_eq_some_iff.1 h1).1
theorem RuneMap.below {w w' : World} {b : Nat} {m : List (Int × List Int)} (h : RuneMap w.heap.size w b m) (hb : Below w.heap.size w w') : RuneMap w'.heap.size w' b m := by
  obtain ⟨kv, h1, h2⟩ := h
  exact ⟨kv, h1.below hb h1.lt, h2.mono fun _ _ h => ⟨(h.1.below hb).more hb.size, h.2⟩⟩
theorem PropsAt.below {w w' : World} {bp : Nat} {q : PP} (h : PropsAt w bp q) (hb : Below w.heap.size w w') : PropsAt w' bp q := by
  have hlt := h.lt
  obtain ⟨⟨vc, vk, bf, bd, bt, h1, h2, h3, h4, h5, h6⟩, n1, n2⟩ := h
  exact ⟨⟨vc, vk, bf, bd, bt, (hb.block bp hlt).trans h1, (h2.below hb).more hb.size, (h3.below hb).more hb.size, h4.below hb, h5.below hb, MapIs.below h6 hb h6.lt⟩, n1, n2⟩
theorem PropsAt.drew {w : World} {bp : Nat} {q : PP} (h : PropsAt w bp q) : PropsAt w.drew bp q := h.below (Below.refl _ _).drew

theorem blk5 {W : World} {B : Nat} {t : TypeId} {a b c d e : Value} (h : W.heap[B]? = some (.cells #[a, b, c, d, e] t (0, 0))) : W.cell? ⟨B, 0, none⟩ = some a ∧ W.cell? ⟨B, 1, none⟩ = some b ∧ W.cell? ⟨B, 2, none⟩ = some c ∧ W.cell? ⟨B, 3, none⟩ = some d ∧ W.cell? ⟨B, 4, none⟩ = some e := by
  simp [World.cell?, h]

set_option maxHeartbeats 1000000 in
theorem Class_any (bp : Nat) (r : Int) (q : PP) (w : World) (hq : PropsAt w bp q) :
    Calls Tryz.prog 37 #[.pointer (some ⟨bp, 0, none⟩), .int .i32 r] w fun e w' => e = .returned (.int .i64 (q.cls r)) ∧ Below w.heap.size w w' := by
  obtain ⟨⟨vc, vk, bf, bd, bt, h1, h2, h3, h4, h5, h6⟩, n1, n2⟩ := hq
  obtain ⟨c0, c1, c2, c3, c4⟩ := blk5 h1
  unfold PP.cls
  cases hch : isChar r
  · go_enter Tryz.func37, Tryz.ntmps37
    go_wp2_with (go_at_call 60; refine (character_any _ _).mono ?_; rintro e w' ⟨rfl, rfl⟩)
    go_ret
    exact ⟨rfl, Below.refl _ _⟩
  · cases hsy : isSyl r
    · cases hja : isJamo r
      · go_enter Tryz.func37, Tryz.ntmps37
        go_wp2_with (first
          | (go_at_call 60; refine (character_any _ _).mono ?_; rintro e w' ⟨rfl, rfl⟩)
          | (go_at_call 51; refine (syllable_any _ _).mono ?_; rintro e w' ⟨rfl, rfl⟩)
          | (go_at_call 52; refine (jamo_any _ _).mono ?_; rintro e w' ⟨rfl, rfl⟩)
          | (go_at_call 61; refine (said_any _ _ _ _ (by omega) _ h2).mono ?_; rintro e w' ⟨rfl, hb⟩))
        go_ret
        exact ⟨rfl, hb⟩
      · go_enter Tryz.func37, Tryz.ntmps37
        go_wp2_with (first
          | (go_at_call 60; refine (character_any _ _).mono ?_; rintro e w' ⟨rfl, rfl⟩)
          | (go_at_call 51; refine (syllable_any _ _).mono ?_; rintro e w' ⟨rfl, rfl⟩)
          | (go_at_call 52; refine (jamo_any _ _).mono ?_; rintro e w' ⟨rfl, rfl⟩))
        go_ret
        exact ⟨rfl, Below.refl _ _⟩
    · go_enter Tryz.func37, Tryz.ntmps37
      go_wp2_with (first
        | (go_at_call 60; refine (character_any _ _).mono ?_; rintro e w' ⟨rfl, rfl⟩)
        | (go_at_call 51; refine (syllable_any _ _).mono ?_; rintro e w' ⟨rfl, rfl⟩))
      go_ret
      exact ⟨rfl, Below.refl _ _⟩

end Go.Proofs.YtgidpknckbgmbaaGreatDoor

namespace Go.Proofs.YtgidpknckbgmbaaGreatDoor
open Go.RowKit
open Go.Maps (Keyed)

/-- The slice v owns the numbers l, in a block from base on. -/
def OwnRunes (base : Nat) (w : World) (v : Value) (l : List Int) : Prop := w.ownsRow base 21 1 v l.length (l.map (Value.int .i32))

theorem OwnRunes.runes {base : Nat} {w : World} {v : Value} {l : List Int} (h : OwnRunes base w v l) : RunesAt w.heap.size w v l := by
  obtain ⟨h1, ⟨rfl, h2⟩ | ⟨g, cap, cur, rfl, hb, hg, hc, hm, hs, ht⟩⟩ := h
  · exact .inl ⟨rfl, List.length_eq_zero_iff.1 h2⟩
  · refine .inr ⟨g, 0, cap, cur, (0, 0), rfl, hc, hm, (Array.getElem?_eq_some_iff.1 hg).1, hg, fun j x hj => ?_⟩
    have hjl : j < l.length := (List.getElem?_eq_some_iff.1 hj).1
    have : (cur.toList.take (l.length * 1))[j]? = some (.int .i32 x) := by rw [ht, List.getElem?_map, hj]; rfl
    rw [List.getElem?_take, if_pos (by omega)] at this
    simpa using this
theorem OwnRunes.base {b b' : Nat} {w : World} {v : Value} {l : List Int} (h : OwnRunes b w v l) (hb : b' ≤ b) : OwnRunes b' w v l := by
  obtain ⟨h1, h2 | ⟨g, cap, cur, e, hb', r⟩⟩ := h
  · exact ⟨h1, .inl h2⟩
  · exact ⟨h1, .inr ⟨g, cap, cur, e, by omega, r⟩⟩
theorem OwnRunes.nil (base : Nat) (w : World) : OwnRunes base w (.slice none 0 0) [] := ⟨by simp, .inl ⟨rfl, rfl⟩⟩
theorem OwnRunes.below {base B : Nat} {w w' : World} {v : Value} {l : List Int} (h : OwnRunes base w v l) (hb : Below B w w') (hB : w.heap.size ≤ B) : OwnRunes base w' v l := by
  obtain ⟨h1, h2 | ⟨g, cap, cur, e, hb', hg, r⟩⟩ := h
  · exact ⟨h1, .inl h2⟩
  · exact ⟨h1, .inr ⟨g, cap, cur, e, hb', (hb.block g (Nat.lt_of_lt_of_le (Array.getElem?_eq_some_iff.1 hg).1 hB)).trans hg, r⟩⟩

theorem infoR : (Tryz.prog.info? 21).map (fun i => (i.zero, i.size, i.bytes)) = some (some (.int .i32 0), 1, 4) := by kernel_rfl

set_option maxHeartbeats 1000000 in
theorem clone_any (v : Value) (l : List Int) (w : World) (hl : l.length ≤ 1099511627776) (h : RunesAt w.heap.size w v l) :
    Calls Tryz.prog 40 #[v] w fun e w' => ∃ v', e = .returned v' ∧ OwnRunes w.heap.size w' v' l ∧ Below w.heap.size w w' := by
  have q22 : ∀ (w : World) (a : Option Addr) (n c n' c' : Nat), (binOp .eql 22 (.slice a n c) (.slice none n' c')).run Tryz.prog w = .ok (.bool a.isNone) w := fun w a n c n' c' => Lib.run_eql_slice_nil w _ _ a n c n' c' Tryz.underlying22
  rcases h.cases with ⟨rfl, rfl⟩ | ⟨b, off, cap, rfl, hcap, hm, hb, hx⟩
  · go_enter Tryz.func40, Tryz.ntmps40
    go_wp2
    go_ret
    exact ⟨_, rfl, OwnRunes.nil _ _, Below.refl _ _⟩
  · obtain ⟨i0, hi, hz0, hz1, hz2⟩ := info_parts infoR
    have HX := Lib.hid hx
    clear hx
    go_enter Tryz.func40, Tryz.ntmps40
    go_wp2_with (at_builtin; refine wpList_append_own _ rfl _ _ 22 rfl w.heap.size 21 i0 (.int .i32 0) 1 4 Tryz.underlying22 hi hz0 hz1 hz2 rfl (by decide) _ _ _ rfl (World.ownsRow_made w #[] 0 (Nat.le_refl _) (Nat.zero_le _) rfl) ⟨b, off, none⟩ l.length cap (l.map (Value.int .i32)) rfl ?qc1 ?qc2 ?qc3 ?qc4 ?qc5 ?qc6 ?_)
    case qc1 => simp
    case qc2 =>
      intro j u hj
      rw [List.getElem?_map] at hj
      obtain ⟨x, hx, rfl⟩ := Option.map_eq_some_iff.1 hj
      rw [Addr.add_lit]
      exact Lib.cell?_alloc_some _ (HX.out j x hx)
    case qc3 => intro u hu; obtain ⟨x, _, rfl⟩ := List.mem_map.1 hu; rfl
    case qc4 => unfold maxLen; omega
    case qc5 => omega
    case qc6 => simp
    intro v' w1 hown hgrow hnil
    go_wp2
    go_ret
    refine ⟨v', rfl, by unfold OwnRunes; simpa using hown, ?_⟩
    exact ((Below.refl _ w).alloc (Nat.le_refl _) _).grown hgrow (by simp) (by intro k hk; simp [Value.ownBlock] at hk; omega)

/-- A new block owns what it holds. -/
theorem own_full (w : World) (xs : List Value) (t : TypeId) (hm : xs.length ≤ maxLen) : (w.alloc (.cells xs.toArray t)).ownsRow w.heap.size t 1 (.slice (some ⟨w.heap.size, 0, none⟩) xs.length xs.length) xs.length xs :=
  ⟨by simp, .inr ⟨w.heap.size, xs.length, xs.toArray, rfl, Nat.le_refl _, heap_alloc_new w _, Nat.le_refl _, hm, by simp, by simp⟩⟩

theorem cell_new (w : World) (v : Value) (t : TypeId) : (w.alloc (.cells #[v] t)).cell? ⟨w.heap.size, 0, none⟩ = some v := by
  unfold World.cell?
  rw [heap_alloc_new w (.cells #[v] t)]
  rfl
theorem OwnRunes.alloc {base : Nat} {w : World} {v : Value} {l : List Int} (h : OwnRunes base w v l) (o : Obj) : OwnRunes base (w.alloc o) v l := World.ownsRow.alloc h o

/-- 'append(l, y)' of a slice of the call's own. -/
theorem wpList_append_rune {ops : Array Oper} {rest : List Oper} {o : Oper} {a : Act} {Q : Exit → Act → World → Prop} (w : World) (hg : o.guard = none) (s x : Operand)
    (ho : o.op = .call { callee := .builtin .append, args := #[s, x], argTypes := #[22, 22] }) (base : Nat) (v : Value) (l : List Int) (hs : a.eval s = v) (hown : OwnRunes base w v l) (g : Nat) (y : Int)
    (hx : a.eval x = .slice (some ⟨g, 0, none⟩) 1 1) (hc : w.cell? ⟨g, 0, none⟩ = some (.int .i32 y)) (hn : l.length < 1099511627776) (hbase : base ≤ w.heap.size)
    (h : ∀ v' w', OwnRunes base w' v' (l ++ [y]) → w.grownBy w' v.ownBlock → wpList Tryz.prog ops Q rest (a.put o.dst v') w') : wpList Tryz.prog ops Q (o :: rest) a w := by
  obtain ⟨i0, hi, hz0, hz1, hz2⟩ := info_parts infoR
  refine wpList_append_own w hg s x 22 ho base 21 i0 (.int .i32 0) 1 4 Tryz.underlying22 hi hz0 hz1 hz2 rfl (by decide) v l.length (l.map (Value.int .i32)) hs hown ⟨g, 0, none⟩ 1 1 [.int .i32 y] hx rfl ?_ ?_ (by unfold maxLen; omega) (by omega) hbase ?_
  · intro j u hj
    have hjl := (List.getElem?_eq_some_iff.1 hj).1
    have hj0 : j = 0 := by simp at hjl; omega
    subst hj0
    have hu : Value.int .i32 y = u := by simpa using hj
    rw [← hu, Addr.add_lit]
    exact hc
  · intro u hu; simp at hu; subst hu; rfl
  · intro v' w' h1 h2 h3
    refine h v' w' ?_ h2
    unfold OwnRunes
    simpa using h1

theorem zeroRunes (w : World) : (zeroValue 22).run Tryz.prog w = .ok (.slice none 0 0) w := by kernel_rfl
theorem injR : ∀ x y : Int, Value.int .i32 x = Value.int .i32 y → x = y := fun x y h => by injection h
theorem keyR {x : Int} (h : I32 x) : keyOf Tryz.prog 21 (.int .i32 x) = some (.int .i32 x) := Go.Maps.keyOf_int_mk Tryz.underlying21 h.wf

theorem sylD_nt {r : Int} (h : isSyl r = true) : 44032 ≤ r ∧ r < 55204 := by unfold isSyl at h; simp at h; omega

set_option maxHeartbeats 1000000 in
theorem Decomp_plain (bp : Nat) (r : Int) (q : PP) (w : World) (hr : I32 r) (hq : PropsAt w bp q) (hs : isSyl r = false) :
    Calls Tryz.prog 39 #[.pointer (some ⟨bp, 0, none⟩), .int .i32 r] w fun e w' => ∃ v, e = .returned v ∧ OwnRunes w.heap.size w' v (q.dec r) ∧ Below w.heap.size w w' := by
  obtain ⟨⟨vc, vk, bf, bd, bt, h1, h2, h3, h4, ⟨kv, h5, h6⟩, h7⟩, n1, n2⟩ := hq
  obtain ⟨c0, c1, c2, c3, c4⟩ := blk5 h1
  clear c0 c1 c2 c4
  have hd : ∃ v, getKV kv r = v ∧ RunesAt w.heap.size w (lookVal false (.slice none 0 0) v) (q.dec r) ∧ (q.dec r).length ≤ 8 := by
    unfold PP.dec
    rw [hs]
    cases hg : getKV q.decomps r with
    | none => exact ⟨_, rfl, .inl ⟨by rw [h6.get_none hg]; rfl, rfl⟩, by simp⟩
    | some l => obtain ⟨v, hv, hR, _, hl⟩ := h6.get_some hg; exact ⟨_, rfl, by rw [hv]; exact hR, hl⟩
  obtain ⟨v, hv, hR, hlen⟩ := hd
  have HV := Lib.hid hv
  clear hv
  go_enter Tryz.func39, Tryz.ntmps39
  go_wp2_with (first
    | (go_at_call 51; refine (syllable_any _ _).mono ?_; rintro e w' ⟨rfl, rfl⟩)
    | (at_lookup; refine wpList_lookup_is _ rfl _ _ 50 false rfl 21 22 kr Tryz.underlying50 _ (zeroRunes _) (Value.int .i32) injR bd kv rfl h5 r _ rfl (keyR hr) ?_; rw [HV.out])
    | (go_at_call 40; refine (clone_any _ _ _ (by omega) hR).mono ?_; rintro e w' ⟨v', rfl, ho, hb⟩))
  go_ret
  exact ⟨_, rfl, ho, hb⟩

set_option maxRecDepth 100000 in
set_option maxHeartbeats 1000000 in
theorem Decomp_syl (bp : Nat) (r : Int) (q : PP) (w : World) (hs : isSyl r = true) :
    Calls Tryz.prog 39 #[.pointer (some ⟨bp, 0, none⟩), .int .i32 r] w fun e w' => ∃ v, e = .returned v ∧ OwnRunes w.heap.size w' v (q.dec r) ∧ Below w.heap.size w w' := by
  obtain ⟨r1, r2⟩ := sylD_nt hs
  obtain ⟨i0, hi, hz0, hz1, hz2⟩ := info_parts infoR
  unfold PP.dec
  rw [hs, if_pos rfl]
  unfold sylD
  by_cases ht : 0 < (r - 44032) % 28
  · rw [if_pos ht]
    have o2 : (w.alloc (.cells #[.int .i32 (4352 + (r - 44032) / 588), .int .i32 (4449 + (r - 44032) / 28 % 21)] 21)).ownsRow w.heap.size 21 1 (.slice (some ⟨w.heap.size, 0, none⟩) 2 2) 2 [.int .i32 (4352 + (r - 44032) / 588), .int .i32 (4449 + (r - 44032) / 28 % 21)] :=
      own_full w [.int .i32 (4352 + (r - 44032) / 588), .int .i32 (4449 + (r - 44032) / 28 % 21)] _ (by unfold maxLen; simp)
    go_enter Tryz.func39, Tryz.ntmps39
    go_wp2_with (first
      | (go_at_call 51; refine (syllable_any _ _).mono ?_; rintro e w' ⟨rfl, rfl⟩)
      | (at_builtin; refine wpList_append_own _ rfl _ _ 22 rfl w.heap.size 21 i0 (.int .i32 0) 1 4 Tryz.underlying22 hi hz0 hz1 hz2 rfl (by decide) _ _ _ rfl (o2.alloc _) ⟨w.heap.size + 1, 0, none⟩ 1 1 [.int .i32 (4519 + (r - 44032) % 28)] rfl rfl ?qc2 ?qc3 ?qc4 ?qc5 ?qc6 ?_))
    case qc2 =>
      have := cell_one_new (w.alloc (.cells #[.int .i32 (4352 + (r - 44032) / 588), .int .i32 (4449 + (r - 44032) / 28 % 21)] 21)) (.int .i32 (4519 + (r - 44032) % 28)) 21
      rwa [World.size_alloc] at this
    case qc3 => intro u hu; simp at hu; subst hu; rfl
    case qc4 => unfold maxLen; omega
    case qc5 => omega
    case qc6 => simp; omega
    intro v' w1 hown hgrow hnil
    go_wp2
    go_ret
    refine ⟨v', rfl, by unfold OwnRunes; simpa using hown, ?_⟩
    exact (((Below.refl _ w).alloc (Nat.le_refl _) _).alloc (by simp) _).grown hgrow (by simp; omega) (by intro k hk; simp [Value.ownBlock] at hk; omega)
  · rw [if_neg ht]
    have ht' : (r - 44032) % 28 ≤ 0 := by omega
    go_enter Tryz.func39, Tryz.ntmps39
    go_wp2_with (first
      | (go_at_call 51; refine (syllable_any _ _).mono ?_; rintro e w' ⟨rfl, rfl⟩))
    go_ret
    refine ⟨_, rfl, ?_, (Below.refl _ _).alloc (Nat.le_refl _) _⟩
    exact own_full w [.int .i32 (4352 + (r - 44032) / 588), .int .i32 (4449 + (r - 44032) / 28 % 21)] _ (by unfold maxLen; simp)

theorem Decomp_any (bp : Nat) (r : Int) (q : PP) (w : World) (hr : I32 r) (hq : PropsAt w bp q) :
    Calls Tryz.prog 39 #[.pointer (some ⟨bp, 0, none⟩), .int .i32 r] w fun e w' => ∃ v, e = .returned v ∧ OwnRunes w.heap.size w' v (q.dec r) ∧ Below w.heap.size w w' := by
  cases hs : isSyl r
  · exact Decomp_plain bp r q w hr hq hs
  · exact Decomp_syl bp r q w hs

end Go.Proofs.YtgidpknckbgmbaaGreatDoor
