/- A point's full decomposition put behind what is there: the Go code does what the plain function does. -/
import Derived.Test.YtgidpknckbgmbaaGreatDoorSz2
import Derived.ArgAppend
set_option linter.unusedSimpArgs false
set_option linter.unusedVariables false
namespace Go.Proofs.YtgidpknckbgmbaaGreatDoor
open Go.RowKit

/-- The full decomposition, at most d deep; whether it ends within d. -/
def wholeF (q : PP) : Nat → Int → List Int
  | 0, r => [r]
  | d + 1, r => match q.dec r with
    | [] => [r]
    | x :: xs => (x :: xs).flatMap (wholeF q d)
def wfin (q : PP) : Nat → Int → Bool
  | 0, r => (q.dec r).isEmpty
  | d + 1, r => (q.dec r).all (wfin q d)
theorem wholeF_nil {q : PP} {d : Nat} {r : Int} (h : q.dec r = []) : wholeF q d r = [r] := by
  cases d with
  | zero => rfl
  | succ d => unfold wholeF; rw [h]
theorem wholeF_cons {q : PP} {d : Nat} {r : Int} (h : q.dec r ≠ []) : wholeF q (d + 1) r = (q.dec r).flatMap (wholeF q d) := by
  conv => lhs; unfold wholeF
  cases e : q.dec r with
  | nil => exact absurd e h
  | cons x xs => rfl

/-- The block of a slice is what it was, or a new one. -/
def SameNew (w : World) (v v' : Value) : Prop := ∀ g, v'.ownBlock = some g → v.ownBlock = some g ∨ w.heap.size ≤ g
theorem SameNew.refl (w : World) (v : Value) : SameNew w v v := fun _ h => .inl h
theorem SameNew.trans {w w' : World} {a b c : Value} (h : SameNew w a b) (g : SameNew w' b c) (hs : w.heap.size ≤ w'.heap.size) : SameNew w a c := fun k hk => by
  rcases g k hk with e | e
  · exact h k e
  · exact .inr (by omega)
theorem grown_chain {w w' w'' : World} {v v' : Value} (h : w.grownBy w' v.ownBlock) (s : SameNew w v v') (g : w'.grownBy w'' v'.ownBlock) : w.grownBy w'' v.ownBlock :=
  ⟨g.os.trans h.os, g.tape.trans h.tape, g.output.trans h.output, Nat.le_trans h.size g.size, fun k hk hne => (g.block k (Nat.lt_of_lt_of_le hk h.size) (fun e => by
    rcases s k e.symm with e' | e'
    · exact hne e'.symm
    · omega)).trans (h.block k hk hne)⟩

/-- 'append' to a slice of the call's own: the block is the old one or a new one. -/
theorem run_append_own2 {P : Program} (w : World) (base : Nat) (t ty e : TypeId) (i : TypeInfo) (z : Value) (size bytes : Nat) (ht : P.underlying t = some (.slice e)) (hi : P.info? e = some i) (hz : i.zero = some z)
    (hsize : i.size = size) (hby : i.bytes = bytes) (hzs : z.cells.size = size) (hsz : 0 < size)
    (v : Value) (n : Nat) (xs : List Value) (hown : w.ownsRow base e size v n xs)
    (a : Addr) (m c : Nat) (news : List Value) (hl : news.length = m * size) (hnews : ∀ j u, news[j]? = some u → w.cell? (a.add j) = some u) (h1 : ∀ u ∈ news, u.oneCell' = true)
    (h63 : n + m ≤ maxLen) (hbytes : (n + m) * bytes ≤ 140737488355328) (hbase : base ≤ w.heap.size) :
    ∃ v' w', (Builtin.append_ #[t, t] ty #[v, .slice (some a) m c]).run P w = .ok v' w' ∧ w'.ownsRow base e size v' (n + m) (xs ++ news) ∧ w.grownBy w' v.ownBlock ∧ SameNew w v v' := by
  obtain ⟨v', w', hr, h2, h3, _⟩ := run_append_own (P := P) w base t ty e i z size bytes ht hi hz hsize hby hzs hsz v n xs hown a m c news hl hnews h1 h63 hbytes hbase
  refine ⟨v', w', hr, h2, h3, ?_⟩
  obtain ⟨hx, ⟨rfl, rfl⟩ | ⟨g, cap, cur, rfl, hb, hg, hc, hm, hs, htk⟩⟩ := hown
  · have hx0 : xs = [] := List.eq_nil_of_length_eq_zero (by simpa using hx)
    subst hx0
    obtain ⟨v2, w2, hr2, k2, _, _⟩ := run_append_own (P := P) w w.heap.size t ty e i z size bytes ht hi hz hsize hby hzs hsz (.slice none 0 0) 0 [] (World.ownsRow_nil _ _ _ _) a m c news hl hnews h1 h63 hbytes (Nat.le_refl _)
    rw [hr] at hr2
    cases hr2
    exact fun g hg => .inr (World.ownsRow.lt k2 g hg).1
  · by_cases hroom : n + m ≤ cap
    · have hr2 := run_append_room (P := P) w t ty e i ht hi g n cap cur hg a m c news (by rw [hl, hsize]) hnews h1 hroom (by rw [hl, hs, hsize, ← Nat.add_mul]; exact Nat.mul_le_mul_right _ hroom)
      rw [hr] at hr2
      cases hr2
      exact fun g hg => .inl hg
    · obtain ⟨v2, w2, hr2, k2, _⟩ := run_append_arg_grows (P := P) w t ty e i z size bytes ht hi hz hsize hby hzs hsz ⟨g, 0, none⟩ n cap xs hx (fun j u hj => World.ownsRow.cells ⟨hx, .inr ⟨g, cap, cur, rfl, hb, hg, hc, hm, hs, htk⟩⟩ rfl j u hj) a m c news hl hnews (by omega) h63 hbytes
      rw [hr] at hr2
      cases hr2
      exact fun g hg => .inr (World.ownsRow.lt k2 g hg).1

theorem wpList_append_rune2 {ops : Array Oper} {rest : List Oper} {o : Oper} {a : Act} {Q : Exit → Act → World → Prop} (w : World) (hg : o.guard = none) (s x : Operand)
    (ho : o.op = .call { callee := .builtin .append, args := #[s, x], argTypes := #[22, 22] }) (base : Nat) (v : Value) (l : List Int) (hs : a.eval s = v) (hown : OwnRunes base w v l) (ad : Addr) (m c : Nat) (ys : List Int)
    (hx : a.eval x = .slice (some ad) m c) (hm : ys.length = m) (hc : ∀ j y, ys[j]? = some y → w.cell? (ad.add j) = some (.int .i32 y)) (hn : l.length + m < 1099511627776) (hbase : base ≤ w.heap.size)
    (h : ∀ v' w', OwnRunes base w' v' (l ++ ys) → w.grownBy w' v.ownBlock → SameNew w v v' → wpList Tryz.prog ops Q rest (a.put o.dst v') w') : wpList Tryz.prog ops Q (o :: rest) a w := by
  obtain ⟨i0, hi, hz0, hz1, hz2⟩ := info_parts infoR
  subst hm
  obtain ⟨v', w', hr, h2, h3, h4⟩ := run_append_own2 (P := Tryz.prog) w base 22 o.type 21 i0 (.int .i32 0) 1 4 Tryz.underlying22 hi hz0 hz1 hz2 rfl (by decide) v l.length (l.map (Value.int .i32)) hown ad ys.length c (ys.map (Value.int .i32)) (by simp)
    (fun j u hj => by
      rw [List.getElem?_map] at hj
      obtain ⟨y, hy, rfl⟩ := Option.map_eq_some_iff.1 hj
      exact hc j y hy) (fun u hu => by obtain ⟨y, _, rfl⟩ := List.mem_map.1 hu; rfl) (by unfold maxLen; omega) (by omega) hbase
  refine wpList_plain hg fun K hK => ?_
  unfold Oper.wp execOp
  simp only [ho, resolve, invoke, builtin, Sem.run_bind, Sem.run_pure, Result.andThen_ok, List.map_toArray, List.map_cons, List.map_nil, hs, hx, hr]
  refine hK _ _ (h v' w' ?_ h3 h4)
  unfold OwnRunes
  simpa using h2

def WholePost (w : World) (base : Nat) (v : Value) (l : List Int) (e : Ending) (w' : World) : Prop := ∃ v', e = .returned v' ∧ OwnRunes base w' v' l ∧ w.grownBy w' v.ownBlock ∧ SameNew w v v'

theorem own_other {base b2 : Nat} {w w' : World} {u v : Value} {l m : List Int} (h : OwnRunes base w u l) (_ : OwnRunes b2 w v m) (hg : w.grownBy w' v.ownBlock) (hne : ∀ g, u.ownBlock = some g → v.ownBlock ≠ some g) : OwnRunes base w' u l :=
  World.ownsRow.kept h hg (by
    cases e : u.ownBlock with
    | none => exact .inl rfl
    | some g => exact .inr fun e2 => hne g e e2.symm)
theorem own_new_ne {b1 : Nat} {w w1 : World} {u v : Value} {l m : List Int} (h : OwnRunes w.heap.size w1 u l) (g : OwnRunes b1 w v m) : ∀ k, u.ownBlock = some k → v.ownBlock ≠ some k := fun k hk e => by
  have h1 := (World.ownsRow.lt h k hk).1
  have h2 := (World.ownsRow.lt g k e).2
  omega
theorem grown_blk {w w' : World} {b : Nat} {row : Option Nat} (h : w.grownBy w' row) (hb : b ≤ w.heap.size) (hr : ∀ g, row = some g → b ≤ g) : Below b w w' := ⟨h.os, h.tape, h.output, h.size, fun k hk => h.block k (by omega) (fun e => by have := hr k e.symm; omega)⟩

theorem own_below_blk {base : Nat} {w w' : World} {v : Value} {l : List Int} (h : OwnRunes base w v l) (hb : Below w.heap.size w w') : OwnRunes base w' v l := h.below hb (Nat.le_refl _)

set_option maxHeartbeats 1000000 in
theorem whole_leaf (q : PP) (bp : Nat) (r : Int) (hd : q.dec r = []) (base : Nat) (w : World) (v : Value) (l : List Int) (h0 : PropsAt w bp q) (hr : I32 r) (hb2 : base ≤ w.heap.size) (hown : OwnRunes base w v l) (hl : l.length + 1 < 1099511627776) :
    Calls Tryz.prog 35 #[.pointer (some ⟨bp, 0, none⟩), .int .i32 r, v] w (WholePost w base v (l ++ [r])) := by
  have hD := Decomp_any bp r q w hr h0
  rw [hd] at hD
  have HD := Lib.hid hD
  have HO := Lib.hid hown
  clear hD hown h0 hd
  go_enter Tryz.func35, Tryz.ntmps35
  go_upto_region 2 with (go_at_call 39; refine HD.out.mono ?_; rintro e w1 ⟨v2, rfl, ho2, hb⟩; obtain ⟨a2, cap2, rfl, _, _⟩ := ho2.slice)
  have hO1 := Lib.hid (own_below_blk HO.out hb)
  have HB := Lib.hid hb
  have hsz := hb.size
  clear hb ho2 HO
  go_wp2_with (at_builtin; refine wpList_append_rune2 _ rfl _ _ rfl base v l rfl (hO1.out.alloc _) ⟨w1.heap.size, 0, none⟩ 1 1 [r] rfl rfl ?qc1 (by omega) (by simp; omega) ?_)
  case qc1 =>
    intro j y hj
    have hj0 : j = 0 := by have := (List.getElem?_eq_some_iff.1 hj).1; simp at this; omega
    subst hj0
    obtain rfl : r = y := by simpa using hj
    exact cell_new w1 (.int .i32 r) _
  intro v' w2 ho3 hg3 hs3
  go_wp2
  go_ret
  refine ⟨v', rfl, ho3, ?_, fun g hg => ?_⟩
  · exact (grown_of_below (HB.out.trans ((Below.refl _ w1).alloc hsz _)) _).trans hg3
  · rcases hs3 g hg with e | e
    · exact .inl e
    · simp at e; exact .inr (by omega)

set_option maxHeartbeats 1000000 in
theorem whole_any (q : PP) (h32 : Dec32 q) (h8 : Dec8 q) (bp : Nat) (w0 : World) (h0 : PropsAt w0 bp q) : ∀ (d : Nat) (r : Int) (base : Nat) (w : World) (v : Value) (l : List Int), wfin q d r = true → I32 r → Below w0.heap.size w0 w → w0.heap.size ≤ base → base ≤ w.heap.size → OwnRunes base w v l → l.length + (wholeF q d r).length < 1099511627776 →
    Calls Tryz.prog 35 #[.pointer (some ⟨bp, 0, none⟩), .int .i32 r, v] w (WholePost w base v (l ++ wholeF q d r)) := by
  intro d
  induction d with
  | zero =>
    intro r base w v l hf hr hw hb1 hb2 hown hl
    have hd : q.dec r = [] := by simpa [wfin] using hf
    rw [wholeF_nil hd] at hl ⊢
    exact whole_leaf q bp r hd base w v l (h0.below hw) hr hb2 hown hl
  | succ d ih =>
    intro r base w v l hf hr hw hb1 hb2 hown hl
    by_cases hd : q.dec r = []
    · rw [wholeF_nil hd] at hl ⊢
      exact whole_leaf q bp r hd base w v l (h0.below hw) hr hb2 hown hl
    · rw [wholeF_cons hd] at hl ⊢
      have hfa : ∀ x ∈ q.dec r, wfin q d x = true := by unfold wfin at hf; simpa using hf
      have hx32 := h32 r
      have hlen8 := h8 r
      obtain ⟨ds, hds⟩ : ∃ ds, q.dec r = ds := ⟨_, rfl⟩
      have hD := Decomp_any bp r q w hr (h0.below hw)
      rw [hds] at hD hfa hx32 hd hl hlen8 ⊢
      have HD := Lib.hid hD
      have HO := Lib.hid hown
      have HW := Lib.hid hw
      have HF := Lib.hid hfa
      have HX := Lib.hid hx32
      have IH := Lib.hid ih
      have HL := Lib.hid hl
      have hd0 : 0 < ds.length := List.length_pos_iff.2 hd
      clear hD hown hw hf hfa hx32 ih hl hds hd
      go_enter Tryz.func35, Tryz.ntmps35
      go_upto_region 2 with (go_at_call 39; refine HD.out.mono ?_; rintro e w1 ⟨v2, rfl, ho2, hb⟩)
      obtain ⟨g2, cap2, rfl, hc2, hm2, hg2, hgb, hcell⟩ := ho2.ne_ (fun e => by subst e; simp at hd0)
      have hO1 := Lib.hid (own_below_blk HO.out hb)
      have HB := Lib.hid hb
      have HC := Lib.hid hcell
      have hsz := hb.size
      have hgv : ∀ k, v.ownBlock = some k → k < w.heap.size := fun k hk => (World.ownsRow.lt HO.out k hk).2
      have HV := Lib.hid hgv
      clear hb ho2 HO hcell hgv HD
      have hne : ((ds.length : Int) == 0) = false := beq_eq_false_iff_ne.2 (by omega)
      go_wp2_with fail
      go_loopw [2, 22] (fun vo vi wr => ∃ (j : Nat) (lo : List Int), j ≤ ds.length ∧ vi = .int .i64 j ∧ Hid (lo = l ++ (ds.take j).flatMap (wholeF q d)) ∧ Hid (OwnRunes base wr vo lo) ∧ Hid (w1.grownBy wr v.ownBlock) ∧ Hid (SameNew w1 v vo))
        (fun _ vi _ => ds.length - (intOf vi).toNat)
      case atStart => exact ⟨0, l, by omega, rfl, by show _ = _; simp, hO1, World.grownBy.refl _ _, SameNew.refl _ _⟩
      case round =>
        obtain ⟨j, lo, hj, rfl, hlo, hor, hgr, hsn⟩ := hrel
        by_cases hjd : j < ds.length
        · obtain ⟨x, hx⟩ : ∃ x, ds[j] = x := ⟨_, rfl⟩
          have hxm : x ∈ ds := by rw [← hx]; exact List.getElem_mem hjd
          have hx? : ds[j]? = some x := by rw [List.getElem?_eq_getElem hjd, hx]
          have hnb : some g2 ≠ v.ownBlock := fun e => by have := HV.out g2 e.symm; omega
          have hcl : wr.cell? ⟨g2, j, none⟩ = some (.int .i32 x) := hgr.out.cell (HC.out j x hx?) hnb
          have hbl : Below w0.heap.size w0 wr := HW.out.trans ((HB.out.mono HW.out.size).trans (grown_blk hgr.out (Nat.le_trans HW.out.size HB.out.size) (fun g e => by have := (World.ownsRow.lt hO1.out g e).1; omega)))
          have hext : lo ++ wholeF q d x = l ++ (ds.take (j + 1)).flatMap (wholeF q d) := by
            rw [hlo.out, List.take_succ_eq_append_getElem hjd, hx]
            simp
          have hlen : lo.length + (wholeF q d x).length < 1099511627776 := by
            have e1 := congrArg List.length hext
            have e2 : ((ds.take (j + 1)).flatMap (wholeF q d)).length ≤ (ds.flatMap (wholeF q d)).length := by
              conv => rhs; rw [← List.take_append_drop (j + 1) ds]
              rw [List.flatMap_append, List.length_append]
              omega
            have := HL.out
            simp only [List.length_append] at e1
            omega
          have hrec := Lib.hid (IH.out x base wr _ lo (HF.out x hxm) (HX.out x hxm) hbl hb1 (Nat.le_trans (Nat.le_trans hb2 hsz) hgr.out.size) hor.out hlen)
          have HE := Lib.hid hext
          clear hx hx? hbl hext hlen
          go_wp2_with (go_at_call 35; refine hrec.out.mono ?_; rintro e w2 ⟨v3, rfl, ho3, hg3, hs3⟩)
          go_roundw
          case rel => exact ⟨j + 1, lo ++ wholeF q d x, by omega, by go_num, HE, ho3, grown_chain hgr.out hsn.out hg3, hsn.out.trans hs3 hgr.out.size⟩
          case measure => simp [intOf]; omega
        · have hfin : lo = l ++ ds.flatMap (wholeF q d) := by rw [hlo.out, List.take_of_length_le (by omega)]
          have HFn := Lib.hid hfin
          clear hfin
          go_wp2
          go_ret
          refine ⟨_, rfl, by rw [← HFn.out]; exact hor.out, (grown_of_below HB.out _).trans hgr.out, fun g hg => ?_⟩
          rcases hsn.out g hg with e | e
          · exact .inl e
          · exact .inr (by omega)

end Go.Proofs.YtgidpknckbgmbaaGreatDoor
