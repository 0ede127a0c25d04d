/- normal.Compose: the Go code does what the plain function does. -/
import Derived.Test.YtgidpknckbgmbaaGreatDoorDe
set_option linter.unusedSimpArgs false
set_option linter.unusedVariables false
namespace Go.Proofs.YtgidpknckbgmbaaGreatDoor
open Go.RowKit Go.Sort

/-- A point put behind what is composed so far. -/
def meets (q : PP) (o : List Int) (st : Option Nat) (last c : Int) : Option Int := match st with
  | none => none
  | some i => if last < q.cls c then q.comp (o.getD i 0) c else none
def compG (q : PP) : List Int → List Int → Option Nat → Int → List Int
  | [], o, _, _ => o
  | c :: r, o, st, last => match meets q o st last c with
    | some x => compG q r (o.set (st.getD 0) x) st last
    | none => if q.cls c = 0 then compG q r (o ++ [c]) (some o.length) (-1) else compG q r (o ++ [c]) st (q.cls c)
def compF (q : PP) (D : Nat) (l : List Int) : List Int := compG q (dcmpF q D l) [] none (-1)
def stI : Option Nat → Int
  | none => -1
  | some i => i

theorem comp_i32 {q : PP} {D : Nat} (hf : Fine q D) {a b x : Int} (h : q.comp a b = some x) : I32 x := by
  unfold PP.comp at h
  split at h
  · rename_i h1
    cases h
    unfold I32
    omega
  · split at h
    · rename_i h1 h2
      cases h
      have := sylD_nt h2.1
      unfold I32
      omega
    · split at h
      · cases h
      · exact hf.p32 _ (getKV_mem h)
theorem whole_i32 {q : PP} (h32 : Dec32 q) : ∀ (d : Nat) (r : Int), I32 r → ∀ x ∈ wholeF q d r, I32 x
  | 0, r, hr, x, hx => by simp [wholeF] at hx; rw [hx]; exact hr
  | d + 1, r, hr, x, hx => by
    by_cases hd : q.dec r = []
    · rw [wholeF_nil hd] at hx; simp at hx; rw [hx]; exact hr
    · rw [wholeF_cons hd] at hx
      obtain ⟨y, hy, hx⟩ := List.mem_flatMap.1 hx
      exact whole_i32 h32 d y (h32 r y hy) x hx
theorem ordG_mem (k : Int → Int) : ∀ (r seg : List Int) (x : Int), x ∈ ordG k seg r → x ∈ seg ∨ x ∈ r
  | [], seg, x, h => .inl ((ssort_st k seg).symm.mem h)
  | y :: r, seg, x, h => by
    unfold ordG at h
    split at h
    · rcases List.mem_append.1 h with h | h
      · exact .inl ((ssort_st k seg).symm.mem h)
      · rcases List.mem_cons.1 h with rfl | h
        · exact .inr (by simp)
        · rcases ordG_mem k r [] x h with h | h
          · cases h
          · exact .inr (by simp [h])
    · rcases ordG_mem k r _ x h with h | h
      · rcases List.mem_append.1 h with h | h
        · exact .inl h
        · exact .inr (by simp at h; simp [h])
      · exact .inr (by simp [h])
theorem dcmp_i32 {q : PP} {D : Nat} (hf : Fine q D) {l : List Int} (h : ∀ x ∈ l, I32 x) : ∀ x ∈ dcmpF q D l, I32 x := fun x hx => by
  rcases ordG_mem _ _ _ _ hx with h1 | h1
  · cases h1
  · obtain ⟨y, hy, hx⟩ := List.mem_flatMap.1 h1
    exact whole_i32 hf.d32 D y (h y hy) x hx

theorem own_store {base : Nat} {w : World} {v : Value} {l : List Int} (h : OwnRunes base w v l) (i : Nat) (hi : i < l.length) : ∃ g cap, v = .slice (some ⟨g, 0, none⟩) l.length cap ∧ l.length ≤ cap ∧ base ≤ g ∧ w.cell? ⟨g, i, none⟩ = some (.int .i32 l[i]) ∧ w.frozen? ⟨g, i, none⟩ = false ∧
    (∀ x, OwnRunes base (w.setCell ⟨g, i, none⟩ (.int .i32 x)) v (l.set i x)) := by
  have hh := h
  obtain ⟨h1, ⟨rfl, h2⟩ | ⟨g, cap, cur, rfl, hb, hg, hc, r⟩⟩ := h
  · omega
  · obtain ⟨S, hS, hback⟩ := own_rw hh
    have hc1 := hS.cell (j := i) (by simpa using hi)
    refine ⟨g, cap, rfl, hc, hb, ?_, hS.frozen i, fun x => ?_⟩
    · rw [hc1, getElem!_pos l.toArray i (by simpa using hi)]; simp
    · have := hback _ _ (by simp) (hS.set i x (by simpa using hi))
      simpa using this
theorem comp_step (q : PP) (c : List Int) (j : Nat) (hj : j < c.length) (o : List Int) (st : Option Nat) (last : Int) : compG q (c.drop j) o st last = match meets q o st last c[j] with
    | some x => compG q (c.drop (j + 1)) (o.set (st.getD 0) x) st last
    | none => if q.cls c[j] = 0 then compG q (c.drop (j + 1)) (o ++ [c[j]]) (some o.length) (-1) else compG q (c.drop (j + 1)) (o ++ [c[j]]) st (q.cls c[j]) := by
  rw [List.drop_eq_getElem_cons hj]
  rfl

/-- What holds when place j is come to. -/
structure CoSt (q : PP) (D : Nat) (L c : List Int) (w w1 wr : World) (vo : Value) (j : Nat) (o : List Int) (st : Option Nat) (last : Int) : Prop where
  eq : compG q (c.drop j) o st last = L
  own : OwnRunes w1.heap.size wr vo o
  i32 : ∀ x ∈ o, I32 x
  below : Below w1.heap.size w1 wr
  starter : ∀ i, st = some i → i < o.length

theorem CoSt.push {q : PP} {D : Nat} {L c : List Int} {w w1 wr w2 : World} {vo v2 : Value} {j : Nat} {o : List Int} {st : Option Nat} {last x : Int} (h : CoSt q D L c w w1 wr vo j o st last) (hj : j < c.length) (hx : c[j] = x) (hm : meets q o st last x = none) (hi : I32 x)
    (ho : OwnRunes w1.heap.size w2 v2 (o ++ [x])) (hg : wr.grownBy w2 vo.ownBlock) :
    (q.cls x = 0 → CoSt q D L c w w1 w2 v2 (j + 1) (o ++ [x]) (some o.length) (-1)) ∧ (q.cls x ≠ 0 → CoSt q D L c w w1 w2 v2 (j + 1) (o ++ [x]) st (q.cls x)) := by
  have he := h.eq
  rw [comp_step q c j hj, hx, hm] at he
  have hb := h.below.trans (grown_blk hg h.below.size (fun g e => (World.ownsRow.lt h.own g e).1))
  have hi' : ∀ y ∈ o ++ [x], I32 y := fun y hy => by
    rcases List.mem_append.1 hy with hy | hy
    · exact h.i32 y hy
    · simp at hy; rw [hy]; exact hi
  refine ⟨fun h0 => ⟨?_, ho, hi', hb, fun i e => by cases e; simp⟩, fun h0 => ⟨?_, ho, hi', hb, fun i e => by have := h.starter i e; simp; omega⟩⟩
  · simp only [h0, if_true] at he; exact he
  · simp only [h0, if_false] at he; exact he
theorem CoSt.put {q : PP} {D : Nat} (hf : Fine q D) {L c : List Int} {w w1 wr w2 : World} {vo : Value} {j : Nat} {o : List Int} {i : Nat} {last x r : Int} (h : CoSt q D L c w w1 wr vo j o (some i) last) (hj : j < c.length) (hx : c[j] = x) (hm : meets q o (some i) last x = some r)
    (ho : OwnRunes w1.heap.size w2 vo (o.set i r)) (hg : wr.grownBy w2 vo.ownBlock) : CoSt q D L c w w1 w2 vo (j + 1) (o.set i r) (some i) last := by
  have he := h.eq
  rw [comp_step q c j hj, hx, hm] at he
  have hr : I32 r := by
    unfold meets at hm
    simp only at hm
    split at hm
    · exact comp_i32 hf hm
    · cases hm
  refine ⟨he, ho, fun y hy => ?_, h.below.trans (grown_blk hg h.below.size (fun g e => (World.ownsRow.lt h.own g e).1)), fun k e => by cases e; simpa using h.starter i rfl⟩
  rcases List.mem_or_eq_of_mem_set hy with hy | rfl
  · exact h.i32 y hy
  · exact hr

theorem CoSt.turn {q : PP} {D : Nat} {L c : List Int} {w w1 wr w2 : World} {vo : Value} {j : Nat} {o : List Int} {st : Option Nat} {last : Int} (h : CoSt q D L c w w1 wr vo j o st last) (hb : Below wr.heap.size wr w2) : CoSt q D L c w w1 w2 vo j o st last :=
  ⟨h.eq, own_below_blk h.own hb, h.i32, h.below.trans (hb.mono h.below.size), h.starter⟩
theorem slice_snoc {base : Nat} {w : World} {v : Value} {o : List Int} {x : Int} (h : OwnRunes base w v (o ++ [x])) : ∃ a cap, v = .slice a (o.length + 1) cap ∧ OwnRunes base w (.slice a (o.length + 1) cap) (o ++ [x]) := by
  obtain ⟨a, cap, e, _⟩ := h.slice
  rw [List.length_append] at e
  exact ⟨a, cap, e, by rw [e] at h; exact h⟩
theorem one_cell (w : World) (x : Int) : ∀ (j : Nat) (y : Int), [x][j]? = some y → (w.alloc (.cells #[.int .i32 x] 21)).cell? ((⟨w.heap.size, 0, none⟩ : Addr).add j) = some (.int .i32 y) := by
  intro j y hj
  have hj0 : j = 0 := by have := (List.getElem?_eq_some_iff.1 hj).1; simp at this; omega
  subst hj0
  obtain rfl : x = y := by simpa using hj
  exact cell_new w (.int .i32 x) _

set_option maxHeartbeats 2000000 in
set_option maxRecDepth 100000 in
theorem Compose_in (q : PP) (D : Nat) (hf : Fine q D) (bp : Nat) (w : World) (v : Value) (l : List Int) (h0 : PropsAt w bp q) (hv : RunesIn w v l) (h32 : ∀ x ∈ l, I32 x) (hl : (fullF q D l).length < 1099511627776) :
    Calls Tryz.prog 11 #[.pointer (some ⟨bp, 0, none⟩), v] w (OwnPost w (compF q D l)) := by
  have hD := Lib.hid (Decompose_in q D hf bp w v l h0 hv h32 hl)
  have HF := Lib.hid hf
  have H0 := Lib.hid h0
  obtain ⟨c, hc⟩ : ∃ c, dcmpF q D l = c := ⟨_, rfl⟩
  have hclen : c.length < 1099511627776 := by rw [← hc]; unfold dcmpF; rw [orderF_len]; exact hl
  have HC32 := Lib.hid (show ∀ x ∈ c, I32 x by rw [← hc]; exact dcmp_i32 hf h32)
  rw [hc] at hD
  obtain ⟨L, hL⟩ : ∃ L, compF q D l = L := ⟨_, rfl⟩
  rw [hL]
  have HL := Lib.hid (show compG q c [] none (-1) = L by rw [← hL, ← hc]; rfl)
  clear hf h0 hv h32 hl hc hL
  go_enter Tryz.func11, Tryz.ntmps11
  go_upto_region 4 with (go_at_call 10; refine hD.out.mono ?_; rintro e w1 ⟨vd, rfl, hod, hb1⟩; obtain ⟨ad, capd, rfl, hcd, hmd⟩ := hod.slice)
  have HB1 := Lib.hid hb1
  have HOd := Lib.hid hod
  clear hb1 hod hD
  obtain ⟨n, hn⟩ : ∃ n, c.length = n := ⟨_, rfl⟩
  rw [hn] at hclen hcd ⊢
  have HN := Lib.hid hn
  have hcd2 : capd ≤ 9223372036854775807 := by unfold maxLen at hmd; omega
  clear hn hmd
  go_loopw [5, 6, 7, 17] (fun vo vs vl vi wr => ∃ (j : Nat) (o : List Int) (st : Option Nat) (last : Int), j ≤ n ∧ o.length ≤ j ∧ vi = .int .i64 j ∧ vs = .int .i64 (stI st) ∧ vl = .int .i64 last ∧ Hid (CoSt q D L c w w1 wr vo j o st last))
    (fun _ _ _ vi _ => n - (intOf vi).toNat)
  case atStart => exact ⟨0, [], none, -1, by omega, by simp, rfl, rfl, rfl, ⟨HL.out, OwnRunes.nil _ _, (fun x hx => by cases hx), Below.refl _ _, (fun i e => by cases e)⟩⟩
  case round =>
    obtain ⟨j, o, st, last, hj, hoj, rfl, rfl, rfl, hst⟩ := hrel
    by_cases hjn : j < n
    · have hjc : j < c.length := by have := HN.out; omega
      obtain ⟨x, hx⟩ : ∃ x, c[j] = x := ⟨_, rfl⟩
      obtain ⟨gd, had, hcell⟩ : ∃ gd, ad = some ⟨gd, 0, none⟩ ∧ wr.cell? ⟨gd, j, none⟩ = some (.int .i32 x) := by
        have hod := HOd.out
        obtain ⟨gd, e, hx2⟩ := hod.spot (fun e => by rw [e] at hjc; simp at hjc)
        refine ⟨gd, e, ?_⟩
        have := hx2 j x (by rw [List.getElem?_eq_getElem hjc, hx])
        exact (hst.out.below.cell (World.block_lt_of_cell? _ _ this)).trans this
      subst had
      have hxi : I32 x := HC32.out x (by rw [← hx]; exact List.getElem_mem hjc)
      have hqr : PropsAt wr bp q := H0.out.below (HB1.out.trans (hst.out.below.mono HB1.out.size))
      have hcls := Lib.hid (Class_any bp x q wr hqr)
      have hk8 := HF.out.cls x
      have HX := Lib.hid (And.intro hx hxi)
      have HQR := Lib.hid hqr
      clear hx hxi hqr
      go_upto_region 7 with (go_at_call 37; refine hcls.out.mono ?_; rintro e w2 ⟨rfl, hb2⟩)
      have hst2 := hst.out.turn hb2
      have HSt := Lib.hid hst2
      have HQ2 := Lib.hid (HQR.out.below hb2)
      clear hst hst2 hb2 hcell
      cases st with
      | none =>
        · have HM := Lib.hid (show meets q o none last x = none from rfl)
          simp only [stI]
          have hown := Lib.hid (HSt.out.own.alloc (.cells #[.int .i32 x] 21))
          have hone := Lib.hid (one_cell w2 x)
          have hbs := HSt.out.below.size
          by_cases h0 : q.cls x = 0
          · have hb0 : (q.cls x == 0) = true := beq_iff_eq.2 h0
            have H0x := Lib.hid h0
            clear h0
            go_wp2_with (at_builtin; refine wpList_append_rune2 _ rfl _ _ rfl w1.heap.size _ o rfl hown.out ⟨w2.heap.size, 0, none⟩ 1 1 [x] rfl rfl hone.out (by omega) (by simp; omega) ?_; intro v3 w3 ho3 hg3 hs3; obtain ⟨a3, cap3, rfl, ho3'⟩ := slice_snoc ho3)
            go_roundw
            case rel => exact ⟨j + 1, o ++ [x], some o.length, -1, by omega, by simp; omega, by go_num, by simp [stI], rfl, (HSt.out.push hjc HX.out.1 HM.out HX.out.2 ho3' ((World.grownBy_alloc _ _ _).trans hg3)).1 H0x.out⟩
            case measure => simp [intOf]; omega
          · have hb0 : (q.cls x == 0) = false := beq_eq_false_iff_ne.2 h0
            have H0x := Lib.hid h0
            clear h0
            go_wp2_with (at_builtin; refine wpList_append_rune2 _ rfl _ _ rfl w1.heap.size _ o rfl hown.out ⟨w2.heap.size, 0, none⟩ 1 1 [x] rfl rfl hone.out (by omega) (by simp; omega) ?_; intro v3 w3 ho3 hg3 hs3)
            go_roundw
            case rel => exact ⟨j + 1, o ++ [x], none, q.cls x, by omega, by simp; omega, by go_num, rfl, rfl, (HSt.out.push hjc HX.out.1 HM.out HX.out.2 ho3 ((World.grownBy_alloc _ _ _).trans hg3)).2 H0x.out⟩
            case measure => simp [intOf]; omega
      | some i =>
        have hio := HSt.out.starter i rfl
        simp only [stI]
        by_cases hlt : last < q.cls x
        · obtain ⟨go, capo, rfl, hcap, hgo, hcl, hfz, hset⟩ := own_store HSt.out.own i hio
          have hgi : o.getD i 0 = o[i] := by simp [hio]
          have hc2 := Compose2_any q bp o[i] x w2 (HSt.out.i32 _ (List.getElem_mem hio)) HX.out.2 HQ2.out
          obtain ⟨oi, hoi⟩ : ∃ oi, o[i] = oi := ⟨_, rfl⟩
          rw [hoi] at hc2 hgi hcl
          have HGi := Lib.hid hgi
          have HSet := Lib.hid hset
          clear hgi hoi hset
          cases hcp : q.comp oi x with
          | none =>
            have HM := Lib.hid (show meets q o (some i) last x = none by unfold meets; simp only; rw [if_pos hlt, HGi.out]; exact hcp)
            rw [hcp] at hc2
            unfold CompPost at hc2
            simp only [Option.getD_none, Option.isSome_none] at hc2
            have HC2 := Lib.hid hc2
            clear hcp hc2
            go_upto_region 11 with (go_at_call 38; refine HC2.out.mono ?_; rintro e w4 ⟨rfl, hb4⟩)
            have HSt4 := Lib.hid (HSt.out.turn hb4)
            clear hb4 HC2 hcl hfz
            have hown := Lib.hid (HSt4.out.own.alloc (.cells #[.int .i32 x] 21))
            have hone := Lib.hid (one_cell w4 x)
            have hbs := HSt4.out.below.size
            by_cases h0 : q.cls x = 0
            · have hb0 : (q.cls x == 0) = true := beq_iff_eq.2 h0
              have H0x := Lib.hid h0
              clear h0
              go_wp2_with (at_builtin; refine wpList_append_rune2 _ rfl _ _ rfl w1.heap.size _ o rfl hown.out ⟨w4.heap.size, 0, none⟩ 1 1 [x] rfl rfl hone.out (by omega) (by simp; omega) ?_; intro v3 w3 ho3 hg3 hs3; obtain ⟨a3, cap3, rfl, ho3'⟩ := slice_snoc ho3)
              go_roundw
              case rel => exact ⟨j + 1, o ++ [x], some o.length, -1, by omega, by simp; omega, by go_num, by simp [stI], rfl, (HSt4.out.push hjc HX.out.1 HM.out HX.out.2 ho3' ((World.grownBy_alloc _ _ _).trans hg3)).1 H0x.out⟩
              case measure => simp [intOf]; omega
            · have hb0 : (q.cls x == 0) = false := beq_eq_false_iff_ne.2 h0
              have H0x := Lib.hid h0
              clear h0
              go_wp2_with (at_builtin; refine wpList_append_rune2 _ rfl _ _ rfl w1.heap.size _ o rfl hown.out ⟨w4.heap.size, 0, none⟩ 1 1 [x] rfl rfl hone.out (by omega) (by simp; omega) ?_; intro v3 w3 ho3 hg3 hs3)
              go_roundw
              case rel => exact ⟨j + 1, o ++ [x], some i, q.cls x, by omega, by simp; omega, by go_num, rfl, rfl, (HSt4.out.push hjc HX.out.1 HM.out HX.out.2 ho3 ((World.grownBy_alloc _ _ _).trans hg3)).2 H0x.out⟩
              case measure => simp [intOf]; omega
          | some r =>
            have HM := Lib.hid (show meets q o (some i) last x = some r by unfold meets; simp only; rw [if_pos hlt, HGi.out]; exact hcp)
            rw [hcp] at hc2
            unfold CompPost at hc2
            simp only [Option.getD_some, Option.isSome_some] at hc2
            have HC2 := Lib.hid hc2
            clear hcp hc2
            go_upto_region 10 with (go_at_call 38; refine HC2.out.mono ?_; rintro e w4 ⟨rfl, hb4⟩)
            have hst4 := HSt.out.turn hb4
            obtain ⟨g4, cap4, e4, _, _, hcl4, hfz4, hset4⟩ := own_store hst4.own i hio
            simp only [Value.slice.injEq, Option.some.injEq, Addr.mk.injEq, and_true, true_and] at e4
            obtain ⟨rfl, rfl⟩ := e4
            have hg4 : w4.grownBy (w4.setCell ⟨go, i, none⟩ (.int .i32 r)) (some go) := ⟨rfl, rfl, rfl, by simp, fun k _ hk => Below.heap_setCell _ _ _ _ (fun e => hk (by rw [e]))⟩
            have HPut := Lib.hid (hst4.put HF.out hjc HX.out.1 HM.out (hset4 r) hg4)
            clear hst4 hset4 hg4 hb4 HC2 hcl hfz
            go_wp2
            go_roundw
            case rel => exact ⟨j + 1, o.set i r, some i, last, by omega, by simp; omega, by go_num, rfl, rfl, HPut⟩
            case measure => simp [intOf]; omega
        · have HM := Lib.hid (show meets q o (some i) last x = none by unfold meets; simp only; rw [if_neg hlt])
          have hge : q.cls x ≤ last := by omega
          clear hlt
          have hown := Lib.hid (HSt.out.own.alloc (.cells #[.int .i32 x] 21))
          have hone := Lib.hid (one_cell w2 x)
          have hbs := HSt.out.below.size
          by_cases h0 : q.cls x = 0
          · have hb0 : (q.cls x == 0) = true := beq_iff_eq.2 h0
            have H0x := Lib.hid h0
            clear h0
            go_wp2_with (at_builtin; refine wpList_append_rune2 _ rfl _ _ rfl w1.heap.size _ o rfl hown.out ⟨w2.heap.size, 0, none⟩ 1 1 [x] rfl rfl hone.out (by omega) (by simp; omega) ?_; intro v3 w3 ho3 hg3 hs3; obtain ⟨a3, cap3, rfl, ho3'⟩ := slice_snoc ho3)
            go_roundw
            case rel => exact ⟨j + 1, o ++ [x], some o.length, -1, by omega, by simp; omega, by go_num, by simp [stI], rfl, (HSt.out.push hjc HX.out.1 HM.out HX.out.2 ho3' ((World.grownBy_alloc _ _ _).trans hg3)).1 H0x.out⟩
            case measure => simp [intOf]; omega
          · have hb0 : (q.cls x == 0) = false := beq_eq_false_iff_ne.2 h0
            have H0x := Lib.hid h0
            clear h0
            go_wp2_with (at_builtin; refine wpList_append_rune2 _ rfl _ _ rfl w1.heap.size _ o rfl hown.out ⟨w2.heap.size, 0, none⟩ 1 1 [x] rfl rfl hone.out (by omega) (by simp; omega) ?_; intro v3 w3 ho3 hg3 hs3)
            go_roundw
            case rel => exact ⟨j + 1, o ++ [x], some i, q.cls x, by omega, by simp; omega, by go_num, rfl, rfl, (HSt.out.push hjc HX.out.1 HM.out HX.out.2 ho3 ((World.grownBy_alloc _ _ _).trans hg3)).2 H0x.out⟩
            case measure => simp [intOf]; omega
    · have hfin : o = L := by
        have := hst.out.eq
        rw [List.drop_of_length_le (by have := HN.out; omega)] at this
        exact this
      have HFi := Lib.hid (And.intro hfin hst.out.own)
      have HBl := Lib.hid hst.out.below
      clear hfin hst
      go_wp2
      go_ret
      exact ⟨_, rfl, by rw [← HFi.out.1]; exact (HFi.out.2.base HB1.out.size), HB1.out.trans (HBl.out.mono HB1.out.size)⟩

theorem Compose_any (q : PP) (D : Nat) (hf : Fine q D) (bp : Nat) (w : World) (v : Value) (l : List Int) (h0 : PropsAt w bp q) (hv : RunesAt w.heap.size w v l) (h32 : ∀ x ∈ l, I32 x) (hl : (fullF q D l).length < 1099511627776) :
    Calls Tryz.prog 11 #[.pointer (some ⟨bp, 0, none⟩), v] w (OwnPost w (compF q D l)) := Compose_in q D hf bp w v l h0 hv.in_ h32 hl

end Go.Proofs.YtgidpknckbgmbaaGreatDoor
