/- (*props.reader).class: a line of class. -/
import Derived.Test.YtgidpknckbgmbaaGreatDoorRd2
import Derived.Deep.RegionHeld3
import Derived.Deep.MidRow
import Derived.Deep.DrawnRows
set_option linter.unusedSimpArgs false
set_option linter.unusedVariables false
namespace Go.Proofs.YtgidpknckbgmbaaGreatDoor
open Go.RowKit

attribute [local go_sem ↓] Go.wp_at_zero Go.wp_at_succ

def decDigits : List UInt8 := [48, 49, 50, 51, 52, 53, 54, 55, 56, 57]
def isDec (l : List UInt8) : Bool := l.all (fun c => decide (48 ≤ c.toNat) && decide (c.toNat ≤ 57))
theorem decDigits_contains (c : UInt8) : decDigits.contains c = (decide (48 ≤ c.toNat) && decide (c.toNat ≤ 57)) := by
  have : ∀ c : Fin 256, decDigits.contains (UInt8.ofNat c.val) = (decide (48 ≤ (UInt8.ofNat c.val).toNat) && decide ((UInt8.ofNat c.val).toNat ≤ 57)) := by decide +kernel
  have h := this ⟨c.toNat, c.toNat_lt⟩
  simpa using h
theorem trim_dec_empty (l : List UInt8) : (Lib.trimS l decDigits).isEmpty = isDec l := by
  rw [Bool.eq_iff_iff, List.isEmpty_iff, trimS_nil]
  unfold isDec
  rw [List.all_eq_true]
  exact ⟨fun h c hc => by rw [← decDigits_contains]; exact h c hc, fun h c hc => by rw [decDigits_contains]; exact h c hc⟩

theorem trim_dec (t : ByteArray) (w : World) (hs : t.size ≤ 9223372036854775807) :
    Calls Tryz.prog 47 #[.string t, .string ⟨#[48, 49, 50, 51, 52, 53, 54, 55, 56, 57]⟩] w fun e w' =>
      e = .returned (.string ⟨(Lib.trimS t.data.toList decDigits).toArray⟩) ∧ Below w.heap.size w w' :=
  Any.strings_Trim_laid Tryz.laysTrim (by kernel_rfl) t ⟨#[48, 49, 50, 51, 52, 53, 54, 55, 56, 57]⟩ w hs (by decide) (ascii_of_all (by decide))

def decF (l : List UInt8) : Option Int := match Lib.atoiAll l with | .ok v => some v | _ => none
def AtoiPost (w : World) (o : Option Int) (e : Ending) (w' : World) : Prop :=
  Below w.heap.size w w' ∧ match o with
    | some v => e = .returned (.tuple #[.int .i64 v, .nilIface])
    | none => ∃ v t p, e = .returned (.tuple #[.int .i64 v, .iface t p])

theorem atoi_any (s : ByteArray) (w : World) (hs : s.size ≤ 1048576) (hg : Gl w) :
    Calls Tryz.prog 48 #[.string s] w (AtoiPost w (decF s.data.toList)) := by
  unfold decF AtoiPost
  rcases h : Lib.atoiAll s.data.toList with v | _ | _
  · refine (Tryz.strconv_Atoi_ok s (by omega) v h w).mono ?_
    rintro e w' ⟨rfl, rfl | ⟨t, rfl⟩⟩
    · exact ⟨Below.refl _ _, rfl⟩
    · exact ⟨⟨rfl, rfl, rfl, by rw [Lib.bytesWorld_size]; omega, fun k hk => Lib.bytesWorld_at_old w _ t k hk⟩, rfl⟩
  · obtain ⟨t, p, hv⟩ := hg.es
    refine (Tryz.strconv_Atoi_syntax s (by omega) ⟨fun v => by rw [h]; simp, by rw [h]; simp⟩ _ w hv (.inr ⟨t, p, rfl⟩)).mono ?_
    rintro e w' ⟨N, rfl, _, _, hb⟩
    exact ⟨hb, _, _, _, rfl⟩
  · obtain ⟨t, p, hv⟩ := hg.er
    refine (Tryz.strconv_Atoi_range s (by omega) h _ w hv (.inr ⟨t, p, rfl⟩)).mono ?_
    rintro e w' ⟨N, rfl, _, _, hb⟩
    exact ⟨hb, _, _, _, rfl⟩

/-- A line of class: its row, or the error's number. -/
def clsF (ws : List ByteArray) : Except Int Row :=
  match threeF ws with
  | .error n => .error n
  | .ok p =>
    let d := (ws.getD 2 ByteArray.empty).data.toList
    if !isDec d || (decide (1 < d.length) && (d.head? == some 48)) then .error 11
    else match decF d with
      | some v => if 254 < v then .error 1 else .ok (p.1, p.2, v)
      | none => .error 1

/-- The three words of such a line that is read on. -/
theorem threeF_ok {ws : List ByteArray} {p : Int × Int} (h : threeF ws = .ok p) : ws.length = 3 := by
  unfold threeF at h
  split at h
  · cases h
  · split at h
    · cases h
    · omega

def RdPost (w : World) (base : Nat) (k : Blks) (ln : List (Int × Int)) (line : Int) (q : PP) (o : Except Int (PP × List (Int × Int))) (e : Ending) (w' : World) : Prop :=
  Below base w w' ∧ RdKeeps k w w' ∧ match o with
    | .ok r => e = .returned .nilIface ∧ Rd w' base k r.1 r.2 line
    | .error n => e = .returned (errV n) ∧ Rd w' base k q ln line

theorem keeps_below {k : Blks} {w w' : World} (h : Below w.heap.size w w') : RdKeeps k w w' := ⟨h.size, fun i hi _ _ _ _ _ _ => h.block i hi⟩

set_option maxHeartbeats 400000 in
set_option maxRecDepth 100000 in
theorem class_err3 (base : Nat) (k : Blks) (q : PP) (ln : List (Int × Int)) (line : Int) (b cap : Nat) (ws : List ByteArray) (w : World) (hr : Rd w base k q ln line) (hbase : base ≤ w.heap.size) (hs : StrsAt w b 0 cap ws) (hg : Gl w) (n : Int) (h3 : threeF ws = .error n) :
    Calls Tryz.prog 25 #[.pointer (some ⟨k.rb, 0, none⟩), .slice (some ⟨b, 0, none⟩) ws.length cap] w (RdPost w base k ln line q (.error n)) := by
  have hT := three_any b cap ws w hs hg
  rw [h3] at hT
  unfold spanV at hT
  have HT := Lib.hid hT
  have HR := Lib.hid hr
  clear hT hs hg h3 hr
  go_enter Tryz.func25, Tryz.ntmps25
  go_wp2_with (go_at_call 46; refine HT.out.mono ?_; rintro e w2 ⟨rfl, hb2⟩; unfold errV)
  go_ret
  have hb := hb2.alloc hb2.size (.cells #[.int .i32 0, .int .i32 0] 87)
  exact ⟨hb.mono hbase, keeps_below hb, rfl, HR.out.below hb⟩

/-- A step that makes one new block behind a callee. -/
theorem belowAlloc {w w2 : World} (hb : Below w.heap.size w w2) (o : Obj) : Below w.heap.size w (w2.alloc o) := hb.alloc hb.size o

set_option maxHeartbeats 400000 in
set_option maxRecDepth 100000 in
theorem class_err11a (base : Nat) (k : Blks) (q : PP) (ln : List (Int × Int)) (line : Int) (b cap : Nat) (ws : List ByteArray) (w : World) (hr : Rd w base k q ln line) (hbase : base ≤ w.heap.size) (hs : StrsAt w b 0 cap ws) (hg : Gl w) (p : Int × Int) (h3 : threeF ws = .ok p)
    (x : ByteArray) (hx : ws[2]? = some x) (hd : isDec x.data.toList = false) :
    Calls Tryz.prog 25 #[.pointer (some ⟨k.rb, 0, none⟩), .slice (some ⟨b, 0, none⟩) ws.length cap] w (RdPost w base k ln line q (.error 11)) := by
  have hl := threeF_ok h3
  have hT := three_any b cap ws w hs hg
  rw [h3] at hT
  unfold spanV at hT
  have HT := Lib.hid hT
  have HR := Lib.hid hr
  have hxs := hs.short x (List.mem_of_getElem? hx)
  have hTr := fun w => trim_dec x w (by omega)
  have htr : (Lib.trimS x.data.toList decDigits).isEmpty = false := by rw [trim_dec_empty, hd]
  generalize Lib.trimS x.data.toList decDigits = L at hTr htr
  have HTr := Lib.hid hTr
  have HS := Lib.hid hs
  have HX := Lib.hid hx
  rw [hl] at HT ⊢
  clear hTr hT hg h3 hr hd hx hs
  go_enter Tryz.func25, Tryz.ntmps25
  go_wp2_with (first
    | (go_at_call 46; refine HT.out.mono ?_; rintro e w2 ⟨rfl, hb2⟩; have hb3 := belowAlloc hb2 (.cells #[.int .i32 p.1, .int .i32 p.2] 87); have c2 := (HS.out.below hb3).cell 2 x HX.out)
    | (go_at_call 47; refine (HTr.out _).mono ?_; rintro e w4 ⟨rfl, hb4⟩))
  go_ret
  have hb := bt hb3 hb4
  exact ⟨hb.mono hbase, keeps_below hb, rfl, HR.out.below hb⟩


/-- How the byte at the beginning of a word reads in the walk. -/
theorem head_eq (x : ByteArray) (h : 0 < x.size) : ((x[0].toNat : Int) == 48) = (x.data.toList.head? == some 48) := by
  have h1 : x.data.toList.head? = some x[0] := by
    have hl : x.data.toList.length = x.size := by rw [Lib.size_eq]
    have : x.data.toList[0]? = some x[0] := by rw [List.getElem?_eq_getElem (by omega)]; rfl
    rw [← this]; cases x.data.toList <;> rfl
  rw [h1, Bool.eq_iff_iff]
  simp only [beq_iff_eq, Option.some.injEq]
  constructor
  · intro h; apply UInt8.toNat_inj.1; show x[0].toNat = 48; omega
  · intro h; rw [h]; rfl

set_option maxHeartbeats 1000000 in
set_option maxRecDepth 100000 in
theorem class_err11b (base : Nat) (k : Blks) (q : PP) (ln : List (Int × Int)) (line : Int) (b cap : Nat) (ws : List ByteArray) (w : World) (hr : Rd w base k q ln line) (hbase : base ≤ w.heap.size) (hs : StrsAt w b 0 cap ws) (hg : Gl w) (p : Int × Int) (h3 : threeF ws = .ok p)
    (x : ByteArray) (hx : ws[2]? = some x) (hd : isDec x.data.toList = true) (h1 : 1 < x.size) (h0 : (x.data.toList.head? == some 48) = true) :
    Calls Tryz.prog 25 #[.pointer (some ⟨k.rb, 0, none⟩), .slice (some ⟨b, 0, none⟩) ws.length cap] w (RdPost w base k ln line q (.error 11)) := by
  have hl := threeF_ok h3
  have hT := three_any b cap ws w hs hg
  rw [h3] at hT
  unfold spanV at hT
  have HT := Lib.hid hT
  have HR := Lib.hid hr
  have hxs := hs.short x (List.mem_of_getElem? hx)
  have hTr := fun w => trim_dec x w (by omega)
  have htr : (Lib.trimS x.data.toList decDigits).isEmpty = true := by rw [trim_dec_empty, hd]
  generalize Lib.trimS x.data.toList decDigits = L at hTr htr
  have HTr := Lib.hid hTr
  have HS := Lib.hid hs
  have HX := Lib.hid hx
  have hp : 0 < x.size := by omega
  have hz : ((x[0].toNat : Int) == 48) = true := by rw [head_eq x hp, h0]
  rw [hl] at HT ⊢
  clear hTr hT hg h3 hr hd hx hs h0
  go_enter Tryz.func25, Tryz.ntmps25
  go_wp2_with (first
    | (go_at_call 46; refine HT.out.mono ?_; rintro e w2 ⟨rfl, hb2⟩; have hb3 := belowAlloc hb2 (.cells #[.int .i32 p.1, .int .i32 p.2] 87); have c2 := (HS.out.below hb3).cell 2 x HX.out)
    | (go_at_call 47; refine (HTr.out _).mono ?_; rintro e w4 ⟨rfl, hb4⟩; have c4 := (HS.out.below (bt hb3 hb4)).cell 2 x HX.out))
  go_ret
  have hb := bt hb3 hb4
  exact ⟨hb.mono hbase, keeps_below hb, rfl, HR.out.below hb⟩

set_option maxHeartbeats 1000000 in
set_option maxRecDepth 100000 in
theorem class_err1 (base : Nat) (k : Blks) (q : PP) (ln : List (Int × Int)) (line : Int) (b cap : Nat) (ws : List ByteArray) (w : World) (hr : Rd w base k q ln line) (hbase : base ≤ w.heap.size) (hs : StrsAt w b 0 cap ws) (hg : Gl w) (p : Int × Int) (h3 : threeF ws = .ok p)
    (x : ByteArray) (hx : ws[2]? = some x) (hd : isDec x.data.toList = true) (h10 : (decide (1 < x.size) && (x.data.toList.head? == some 48)) = false) (hn : ∀ v, decF x.data.toList = some v → 254 < v) :
    Calls Tryz.prog 25 #[.pointer (some ⟨k.rb, 0, none⟩), .slice (some ⟨b, 0, none⟩) ws.length cap] w (RdPost w base k ln line q (.error 1)) := by
  have hl := threeF_ok h3
  have hT := three_any b cap ws w hs hg
  rw [h3] at hT
  unfold spanV at hT
  have HT := Lib.hid hT
  have HR := Lib.hid hr
  have hxs := hs.short x (List.mem_of_getElem? hx)
  have hTr := fun w => trim_dec x w (by omega)
  have htr : (Lib.trimS x.data.toList decDigits).isEmpty = true := by rw [trim_dec_empty, hd]
  generalize Lib.trimS x.data.toList decDigits = L at hTr htr
  have hA := fun w hg => atoi_any x w hxs hg
  have HTr := Lib.hid hTr
  have HS := Lib.hid hs
  have HX := Lib.hid hx
  have HG := Lib.hid hg
  rw [hl] at HT ⊢
  clear hTr hT hg h3 hr hd hx hs
  have key : (x.size ≤ 1 ∨ (1 < x.size ∧ ∃ hp : 0 < x.size, ((x[0].toNat : Int) == 48) = false)) := by
    rcases Nat.lt_or_ge 1 x.size with h | h
    · right
      have hp : 0 < x.size := by omega
      refine ⟨h, hp, ?_⟩
      rw [head_eq x hp]
      simpa [h] using h10
    · left; exact h
  clear h10
  generalize decF x.data.toList = o at hA hn
  have HA := Lib.hid hA
  clear hA
  rcases key with h1 | ⟨h1, hp, hz⟩
  · cases o with
    | none =>
      clear hn
      go_enter Tryz.func25, Tryz.ntmps25
      go_wp2_with (first
        | (go_at_call 46; refine HT.out.mono ?_; rintro e w2 ⟨rfl, hb2⟩; have hb3 := belowAlloc hb2 (.cells #[.int .i32 p.1, .int .i32 p.2] 87); have c2 := (HS.out.below hb3).cell 2 x HX.out)
        | (go_at_call 47; refine (HTr.out _).mono ?_; rintro e w4 ⟨rfl, hb4⟩; have c4 := (HS.out.below (bt hb3 hb4)).cell 2 x HX.out)
        | (go_at_call 48; refine (HA.out _ (HG.out.below (bt hb3 hb4))).mono ?_; rintro e w5 ⟨hb5, v5, t5, p5, rfl⟩))
      go_ret
      have hb := bt (bt hb3 hb4) hb5
      exact ⟨hb.mono hbase, keeps_below hb, rfl, HR.out.below hb⟩
    | some v =>
      have hv := hn v rfl
      clear hn
      go_enter Tryz.func25, Tryz.ntmps25
      go_wp2_with (first
        | (go_at_call 46; refine HT.out.mono ?_; rintro e w2 ⟨rfl, hb2⟩; have hb3 := belowAlloc hb2 (.cells #[.int .i32 p.1, .int .i32 p.2] 87); have c2 := (HS.out.below hb3).cell 2 x HX.out)
        | (go_at_call 47; refine (HTr.out _).mono ?_; rintro e w4 ⟨rfl, hb4⟩; have c4 := (HS.out.below (bt hb3 hb4)).cell 2 x HX.out)
        | (go_at_call 48; refine (HA.out _ (HG.out.below (bt hb3 hb4))).mono ?_; rintro e w5 ⟨hb5, rfl⟩))
      go_ret
      have hb := bt (bt hb3 hb4) hb5
      exact ⟨hb.mono hbase, keeps_below hb, rfl, HR.out.below hb⟩
  · cases o with
    | none =>
      clear hn
      go_enter Tryz.func25, Tryz.ntmps25
      go_wp2_with (first
        | (go_at_call 46; refine HT.out.mono ?_; rintro e w2 ⟨rfl, hb2⟩; have hb3 := belowAlloc hb2 (.cells #[.int .i32 p.1, .int .i32 p.2] 87); have c2 := (HS.out.below hb3).cell 2 x HX.out)
        | (go_at_call 47; refine (HTr.out _).mono ?_; rintro e w4 ⟨rfl, hb4⟩; have c4 := (HS.out.below (bt hb3 hb4)).cell 2 x HX.out)
        | (go_at_call 48; refine (HA.out _ (HG.out.below (bt hb3 hb4))).mono ?_; rintro e w5 ⟨hb5, v5, t5, p5, rfl⟩))
      go_ret
      have hb := bt (bt hb3 hb4) hb5
      exact ⟨hb.mono hbase, keeps_below hb, rfl, HR.out.below hb⟩
    | some v =>
      have hv := hn v rfl
      clear hn
      go_enter Tryz.func25, Tryz.ntmps25
      go_wp2_with (first
        | (go_at_call 46; refine HT.out.mono ?_; rintro e w2 ⟨rfl, hb2⟩; have hb3 := belowAlloc hb2 (.cells #[.int .i32 p.1, .int .i32 p.2] 87); have c2 := (HS.out.below hb3).cell 2 x HX.out)
        | (go_at_call 47; refine (HTr.out _).mono ?_; rintro e w4 ⟨rfl, hb4⟩; have c4 := (HS.out.below (bt hb3 hb4)).cell 2 x HX.out)
        | (go_at_call 48; refine (HA.out _ (HG.out.below (bt hb3 hb4))).mono ?_; rintro e w5 ⟨hb5, rfl⟩))
      go_ret
      have hb := bt (bt hb3 hb4) hb5
      exact ⟨hb.mono hbase, keeps_below hb, rfl, HR.out.below hb⟩

end Go.Proofs.YtgidpknckbgmbaaGreatDoor
