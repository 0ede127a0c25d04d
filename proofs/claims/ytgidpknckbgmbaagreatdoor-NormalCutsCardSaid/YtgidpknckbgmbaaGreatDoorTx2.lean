/- The one text that each law of the layer asks first, decomposed. points.Text at valid points. -/
import Derived.Test.YtgidpknckbgmbaaGreatDoorStr
import Derived.Laws.RangeString
import Derived.Laws.IdiomStrings
import Derived.Test.YtgidpknckbgmbaaGreatDoorShelf
import Derived.Lib.AppendStr
set_option linter.unusedSimpArgs false
set_option linter.unusedVariables false
namespace Go.Proofs.YtgidpknckbgmbaaGreatDoor
open Go.RowKit Go.Sort

def sAg : ByteArray := ⟨#[195, 128]⟩
def sAg2 : ByteArray := ⟨#[65, 204, 128]⟩
theorem next_at {P : Program} (w : World) (s : ByteArray) (pos : Nat) (ty : TypeId) (h : pos < s.size) {c n : Nat} (hd : Utf8.decode s pos = (c, n)) :
    (Instr.next (.pointer (some ⟨w.heap.size, 0, none⟩)) true ty).run P (w.iter s pos) = .ok (.tuple #[.bool true, .int .i64 pos, .int .i32 c]) (w.iter s (pos + n)) := by
  simp only [Instr.next, getObj, setObj, Sem.run_bind, Sem.run, World.iter_heap, Result.andThen, h, if_true, hd, World.iter_set]
  simp [goInt]
theorem runes_ag : Conv.runesFrom sAg sAg.size 0 #[] = #[.int .i32 192] := by kernel_rfl

set_option maxHeartbeats 1000000 in
set_option maxRecDepth 100000 in
theorem of_ag (w : World) : Calls Tryz.prog 19 #[.string sAg] w (OwnPost w [192]) := by
  have hcv := fun (u : World) => run_runes_of_string (P := Tryz.prog) u 9 22 21 sAg Tryz.underlying9 Tryz.underlying22 Tryz.underlying21 (by rw [runes_ag]; decide)
  rw [runes_ag] at hcv
  go_enter Tryz.func19, Tryz.ntmps19
  go_wp2
  obtain ⟨c, hc⟩ : ∃ c, grownCap w 1 0 21 = c := ⟨_, rfl⟩
  have hc1 : 1 ≤ c ∧ c ≤ maxLen := by rw [← hc]; exact ⟨grownCap_ge w 1 0 _, grownCap_le_maxLen w 1 0 _ (by unfold maxLen; omega)⟩
  rw [hc]
  clear hcv hc
  obtain ⟨W1, hW1⟩ : ∃ W1, W1 = (w.alloc (.cells (#[.int .i32 192] ++ Array.replicate (c - 1) (.int .i32 0)) 21)).drew := ⟨_, rfl⟩
  rw [← hW1]
  have hz : W1.heap.size = w.heap.size + 1 := by rw [hW1]; simp
  have ho : OwnRunes w.heap.size W1 (.slice (some ⟨w.heap.size, 0, none⟩) 1 c) [192] := by
    refine ⟨by simp, .inr ⟨w.heap.size, c, _, rfl, Nat.le_refl _, by rw [hW1]; exact heap_alloc_new w _, by simpa using hc1.1, hc1.2, by simp; omega, ?_⟩⟩
    simp
  have hb : Below w.heap.size w W1 := by rw [hW1]; exact ((Below.refl _ w).alloc (Nat.le_refl _) _).drew
  have hn1 : ∀ ty, (Instr.next (.pointer (some ⟨w.heap.size + 1, 0, none⟩)) true ty).run Tryz.prog (W1.iter sAg 0) = .ok (.tuple #[.bool true, .int .i64 0, .int .i32 192]) (W1.iter sAg 2) := fun ty => by
    have := next_at (P := Tryz.prog) W1 sAg 0 ty (by decide) (c := 192) (n := 2) (by kernel_rfl)
    rw [hz] at this
    exact this
  have hn2 : ∀ ty, (Instr.next (.pointer (some ⟨w.heap.size + 1, 0, none⟩)) true ty).run Tryz.prog (W1.iter sAg 2) = .ok (.tuple #[.bool false]) (W1.iter sAg 2) := fun ty => by
    have := run_next_end (P := Tryz.prog) W1 sAg 2 ty (by decide)
    rw [hz] at this
    exact this
  have HO := Lib.hid ho
  have HB := Lib.hid hb
  have hzl : w.heap.size ≤ W1.heap.size := by omega
  clear hW1 hz ho hb
  refine wp_loop_rounds 2 ?_
  rw [rounds_succ]
  go_wp2
  rw [rounds_succ]
  go_wp2
  go_ret
  exact ⟨_, rfl, HO.out.alloc _, HB.out.trans ((Below.refl _ W1).alloc hzl _)⟩

end Go.Proofs.YtgidpknckbgmbaaGreatDoor

namespace Go.Proofs.YtgidpknckbgmbaaGreatDoor
open Go.RowKit Go.Sort

def encB (x : Int) : List UInt8 := (Utf8.encode x).data.toList
theorem infoU8 : (Tryz.prog.info? 5).map (fun i => (i.zero, i.size, i.bytes)) = some (some (.int .u8 0), 1, 1) := by kernel_rfl
def u8s (l : List UInt8) : List Value := l.map fun b => Value.int .u8 b.toNat
def OwnB (base : Nat) (w : World) (v : Value) (l : List UInt8) : Prop := w.ownsRow base 5 1 v l.length (u8s l)

def StrPost (w : World) (s : ByteArray) (e : Ending) (w' : World) : Prop := e = .returned (.tuple #[.string s, .nilIface]) ∧ Below w.heap.size w w'

theorem encs_len {l : List Int} (h : ∀ x ∈ l, 0 < (encB x).length ∧ (encB x).length ≤ 4) : ∀ j, ((l.take j).flatMap encB).length ≤ 4 * j ∧ (0 < j → l ≠ [] → 0 < ((l.take j).flatMap encB).length) := by
  induction l with
  | nil => intro j; simp
  | cons x l ih =>
    intro j
    cases j with
    | zero => simp
    | succ j =>
      have h1 := h x (by simp)
      have h2 := ih (fun y hy => h y (by simp [hy])) j
      simp only [List.take_succ_cons, List.flatMap_cons, List.length_append]
      exact ⟨by omega, fun _ _ => by omega⟩
theorem OwnB.cells {base : Nat} {w : World} {v : Value} {l : List UInt8} (h : OwnB base w v l) (hl : l ≠ []) : ∃ g cap, v = .slice (some ⟨g, 0, none⟩) l.length cap ∧ ∀ j (hj : j < l.length), w.cell? ((⟨g, 0, none⟩ : Addr).add j) = some (.int .u8 (l[j].toNat : Int)) := by
  have hh := h
  obtain ⟨h1, ⟨rfl, h2⟩ | ⟨g, cap, cur, rfl, r⟩⟩ := h
  · exact absurd (List.length_eq_zero_iff.1 h2) hl
  · refine ⟨g, cap, rfl, fun j hj => ?_⟩
    exact World.ownsRow.cells hh rfl j _ (by unfold u8s; rw [List.getElem?_map, List.getElem?_eq_getElem hj]; rfl)

set_option maxHeartbeats 1000000 in
set_option maxRecDepth 100000 in
theorem text_valid (w : World) (v : Value) (l : List Int) (hv : RunesAt w.heap.size w v l) (hok : ∀ x ∈ l, Lib.validRune x = true) (hl : l.length < 1099511627776) (hne : l ≠ []) (henc : ∀ x ∈ l, 0 < (encB x).length ∧ (encB x).length ≤ 4) :
    Calls Tryz.prog 42 #[v] w (StrPost w ⟨(l.flatMap encB).toArray⟩) := by
  obtain ⟨i0, hi, hz0, hz1, hz2⟩ := info_parts infoU8
  obtain ⟨av, cv, rfl, c1, c2, c3⟩ := hv.len
  unfold maxLen at c2
  obtain ⟨n, hn⟩ : ∃ n, l.length = n := ⟨_, rfl⟩
  have hn0 : 0 < n := by rw [← hn]; exact List.length_pos_iff.2 hne
  rw [hn] at c1 hl ⊢
  have HN := Lib.hid hn
  have HC := Lib.hid c3
  have HOk := Lib.hid hok
  have HE := Lib.hid henc
  clear hv hn c3 hok henc hne
  go_enter Tryz.func42, Tryz.ntmps42
  go_wp2
  go_loopw [4, 9] (fun vb vi wr => ∃ j : Nat, j ≤ n ∧ vi = .int .i64 j ∧ Hid (OwnB w.heap.size wr vb ((l.take j).flatMap encB)) ∧ Hid (Below w.heap.size w wr)) (fun _ vi _ => n - (intOf vi).toNat)
  case atStart => exact ⟨0, by omega, rfl, ⟨by simp [u8s], .inl ⟨rfl, rfl⟩⟩, Below.refl _ _⟩
  case round =>
    obtain ⟨j, hj, rfl, hob, hbl⟩ := hrel
    by_cases hjn : j < n
    · have hjl : j < l.length := by have := HN.out; omega
      obtain ⟨x, hx⟩ : ∃ x, l[j] = x := ⟨_, rfl⟩
      have hxm : x ∈ l := by rw [← hx]; exact List.getElem_mem hjl
      obtain ⟨b, off, rfl, hc⟩ := HC.out j x (by rw [List.getElem?_eq_getElem hjl, hx])
      have hcx := (hbl.out.cell (World.block_lt_of_cell? _ _ hc)).trans hc
      have hvr := fun w => Tryz.utf8_ValidRune x w
      rw [HOk.out x hxm] at hvr
      have HVr := Lib.hid hvr
      have hsz := hbl.out.size
      have he := HE.out x hxm
      have hlen := (encs_len HE.out j).1
      have hnx : (l.take (j + 1)).flatMap encB = (l.take j).flatMap encB ++ encB x := by
        rw [List.take_succ_eq_append_getElem hjl, hx]
        simp only [List.flatMap_append, List.flatMap_cons, List.flatMap_nil, List.append_nil]
      have hes : (Utf8.encode x).size = (encB x).length := by unfold encB; rw [Array.length_toList]; rfl
      have HNx := Lib.hid hnx
      have HEs := Lib.hid hes
      have hes2 : (Utf8.encode x).size ≤ 4 := by omega
      obtain ⟨bs, hbs⟩ : ∃ bs, (l.take j).flatMap encB = bs := ⟨_, rfl⟩
      rw [hbs] at hob hlen HNx
      clear hx hxm hc hvr hnx hes hbs
      go_wp2_with (first
        | (go_at_call 63; refine (HVr.out _).mono ?_; rintro e w2 ⟨rfl, rfl⟩)
        | (at_builtin; refine Lib.wpList_append_own_string _ rfl _ _ 108 9 rfl w.heap.size 5 i0 Tryz.underlying108 Tryz.underlying9 hi hz0 hz1 hz2 _ bs.length (u8s bs) rfl hob.out (Utf8.encode x) rfl (by unfold maxLen; omega) (by omega) hsz ?_; intro v3 w3 ho3 hg3 hs3))
      have ho4 : Hid (OwnB w.heap.size w3 v3 ((l.take (j + 1)).flatMap encB)) := by
        show w3.ownsRow _ _ _ _ _ _
        rw [HNx.out, List.length_append, ← HEs.out]
        unfold u8s
        rw [List.map_append]
        exact ho3
      have hb4 : Hid (Below w.heap.size w w3) := hbl.out.trans (grown_blk hg3 hsz (fun g e => (World.ownsRow.lt hob.out g e).1))
      clear ho3 hg3 hs3
      go_wp2
      go_roundw
      case rel => exact ⟨j + 1, by omega, by go_num, ho4, hb4⟩
      case measure => simp [intOf]; omega
    · have hfin := hob.out
      rw [List.take_of_length_le (by have := HN.out; omega)] at hfin
      have hpos := (encs_len HE.out l.length).2 (by have := HN.out; omega) (by intro e; have := HN.out; rw [e] at this; simp at this; omega)
      rw [List.take_of_length_le (Nat.le_refl _)] at hpos
      obtain ⟨g, cap, rfl, hcs⟩ := hfin.cells (by intro e; rw [e] at hpos; simp at hpos)
      have hcv := run_convert_bytes_back (P := Tryz.prog) wr 108 9 5 ⟨g, 0, none⟩ cap (l.flatMap encB) Tryz.underlying108 Tryz.underlying5 Tryz.underlying9 hcs
      clear hfin hpos hcs hob
      obtain ⟨bs, hbs⟩ : ∃ bs, l.flatMap encB = bs := ⟨_, rfl⟩
      rw [hbs] at hcv ⊢
      have HBs := Lib.hid hbs
      clear hbs
      go_wp2
      go_ret2
      exact ⟨by rw [HBs.out]; rfl, hbl.out⟩

end Go.Proofs.YtgidpknckbgmbaaGreatDoor
