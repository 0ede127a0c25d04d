/- NormalCuts: the row and the card. -/
import Derived.Test.YtgidpknckbgmbaaGreatDoorCards
import Derived.Test.YtgidpknckbgmbaaGreatDoorTie
import Derived.Test.YtgidpknckbgmbaaGreatDoorCuts
import Derived.Test.YtgidpknckbgmbaaGreatDoorLd
import Derived.WalkKit
import Derived.ProofKit
import Derived.OpenShut
import Derived.Deep.DeepHandedRow
import Derived.Lib.LaidTab
import Derived.SizedLaws
set_option linter.unusedSimpArgs false
set_option linter.unusedVariables false
namespace Go.Proofs.YtgidpknckbgmbaaGreatDoor.CardCuts
open Go.ChangeShapes Go.WideShapes Go.RowKit Go.ChangeMaps

theorem cells21 : Tryz.prog.cellsOf 21 = 1 := by kernel_rfl

set_option maxHeartbeats 1000000 in
set_option maxRecDepth 100000 in
/-- What the walk gives, for every argument and every world that holds the listed variables. -/
theorem contract (H : Type) (enc : TypeId × Value → H) (W : World) (base : Nat) (args : Array Value) (ds gs : List (DataW H)) (before : List MemPlace)
    (hval : ∀ (j : Nat) t v, Tryz.f4.params[j]? = some t → args[j]? = some v → Value.okWide Tryz.prog W .any base t v)
    (hW : DataW.Whole enc Tryz.prog Tryz.f4.params.toList Rows.normalCutsSpec.vars false W args.toList ds gs before)
    (hz : (DataW.weightsEach Tryz.prog (Tryz.f4.params.toList ++ []) (ds ++ gs)).all (· ≤ reachBytes) = true)
    (hL : laidMetH Tryz.prog laidL W) (hs : W.ShapedOpen Tryz.prog) :
    Calls Tryz.prog 4 args W fun e W' => ∃ v, e = .returned v ∧ Rows.normalCutsSpec.post enc Tryz.prog Tryz.f4 false true false false W args v W' := by
  have hgl := gl_of_laid hL hs
  clear hL hs
  have hW' := hW
  obtain ⟨p, q, hA0, hV, rfl, hfz, hnd⟩ := hW
  have hA : DataW.TrodAll enc Tryz.prog W 0 (fun _ => true) true Tryz.f4.params.toList args.toList ds p := hA0
  rw [Tryz.params4] at hA hval hz
  obtain ⟨v0, vs0, d0, ds0, p0, q0, hargs, rfl, rfl, h0, r0⟩ := trodAll_cons hA
  obtain ⟨v1, vs1, d1, ds1, p1, q1, rfl, rfl, rfl, h1, r1⟩ := trodAll_cons r0
  obtain ⟨rfl, rfl, rfl⟩ := trodAll_nil r1
  obtain rfl : args = #[v0, v1] := by cases args; simp_all
  obtain ⟨rfl, rfl⟩ := trodVars_none hV
  obtain ⟨s, rfl, rfl, rfl, hmax⟩ := open_string Tryz.underlying9 (hval 0 9 v0 rfl rfl) h0
  obtain ⟨a0, len, cap, rfl⟩ := okWide_slice Tryz.underlying22 (hval 1 22 v1 rfl rfl)
  have hsz : s.size ≤ 281474976710656 := by
    have h2 : s.data.toList.length ≤ reachBytes := sized_string hz (j := 0) rfl rfl
    have h4 := reachBytes_lt
    have h3 : s.data.toList.length = s.size := Array.length_toList
    omega
  have hvs := hval 1 22 _ rfl rfl
  obtain ⟨fuel, hf⟩ := h1
  clear hA0 hA r0 r1 hval
  simp only [List.append_nil, List.nil_append] at hW'
  have hstr : ∀ (w : World) (sp : Nat → Bool), DataW.Trod enc Tryz.prog w 0 sp true 9 (.string s) (.lit (.string s.data.toList)) [] := fun w sp => shut_string Tryz.underlying9 hmax
  rcases open_ints Tryz.underlying22 Tryz.underlying21 cells21 hf with ⟨hcs, hx⟩ | ⟨a, len', cap', zs, hcs, _, hl, hm, hzl, hx, hcell, hwz⟩
  · simp [Value.cells] at hcs
    obtain ⟨rfl, rfl, rfl⟩ := hcs
    simp only [Prod.mk.injEq] at hx
    obtain ⟨rfl, rfl⟩ := hx
    refine (cuts_any s [] _ W hgl hsz (.inl ⟨rfl, rfl⟩) (by simp)).mono fun e W' ⟨he, hb⟩ => ?_
    subst he
    exact ⟨_, rfl, post_below (pa := []) (pv := []) hW' (fun _ _ _ => trodAll_cons_mk (shut_bool Tryz.underlying4 _) trodAll_mk0)
      (fun sp _ => trodAll_cons_mk (p := []) (p' := []) (hstr W' sp) (trodAll_mk1 (shut_slice_nil Tryz.underlying22))) (fun _ _ => rfl) rfl hb
      (ok_one (by kernel_rfl) rfl (okWide_bool_mk Tryz.underlying4 _))⟩
  · simp [Value.cells] at hcs
    obtain ⟨rfl, rfl, rfl⟩ := hcs
    simp only [Prod.mk.injEq] at hx
    obtain ⟨rfl, rfl⟩ := hx
    simp only [if_true] at hzl
    have hspot : a.spot = none := by
      have h := hvs
      simp only [Value.okWide, Tryz.underlying22, Cell.okWide, Cell.ok] at h
      obtain ⟨_, _, hh⟩ := h
      exact hh.2.1
    obtain ⟨b, off, spot⟩ := a
    subst hspot
    have hrun : RunesIn W (.slice (some ⟨b, off, none⟩) len cap) (zs.take len) := by
      have hlen : (zs.take len).length = len := by rw [List.length_take]; omega
      refine .inr ⟨b, off, cap, by rw [hlen], by omega, by omega, fun j x hj => ?_⟩
      have hjl : j < len := by have := (List.getElem?_eq_some_iff.1 hj).1; omega
      rw [List.getElem?_take, if_pos hjl] at hj
      have h := hcell j (by omega)
      rw [add_plain] at h
      rw [h]
      simp [List.getD, hj]
    have h32 : ∀ x ∈ zs.take len, I32 x := fun x hx => by
      have h := hwz x (List.mem_of_mem_take hx)
      simp [Lit.wf, IntKind.min, IntKind.max, IntKind.signed, IntKind.bits] at h
      unfold I32
      omega
    refine (cuts_any s _ _ W hgl hsz hrun h32).mono fun e W' ⟨he, hb⟩ => ?_
    subst he
    have hcell' : ∀ i, i < zs.length → W'.cell? (Addr.add ⟨b, off, none⟩ i) = some (.int .i32 (zs.getD i 0)) := fun i hi => by
      have h := hcell i hi
      rw [← h]
      exact hb.cell (World.block_lt_of_cell? _ _ h)
    have again : ∀ sp : Nat → Bool, (∀ p ∈ MemPlace.row ⟨b, off, none⟩ zs.length, sp p.block = true) → DataW.Trod enc Tryz.prog W' 0 sp true 22 (.slice (some ⟨b, off, none⟩) len cap) (.slice (Go.ChangeShapes.lits .i32 (zs.take len)) (Go.ChangeShapes.lits .i32 (zs.drop len))) (MemPlace.row ⟨b, off, none⟩ zs.length) := by
      intro sp hsp
      by_cases hz0 : zs.length = 0
      · have hc0 : cap = 0 := by omega
        have hl0 : len = 0 := by omega
        subst hc0; subst hl0
        have t0 := shut_ints (enc := enc) (w := W') (base := 0) (spare := sp) (held := true) (a := ⟨b, off, none⟩) (len := 0) (cap := 0) (zs := zs) 0 Tryz.underlying22 Tryz.underlying21 cells21 (Nat.zero_le _) (Nat.le_refl _) hm (by simp [hz0]) hcell' hwz
        exact ⟨2, by simpa [Value.cells] using t0⟩
      · have hspb : sp b = true := by
          have := hsp (.cell b off) (MemPlace.mem_row.2 ⟨0, by omega, by simp⟩)
          exact this
        have t0 := shut_ints (enc := enc) (w := W') (base := 0) (spare := sp) (held := true) (a := ⟨b, off, none⟩) (len := len) (cap := cap) (zs := zs) 0 Tryz.underlying22 Tryz.underlying21 cells21 (Nat.zero_le _) hl hm (by simp [hspb, hzl]) hcell' hwz
        exact ⟨2, by simpa [Value.cells] using t0⟩
    exact ⟨_, rfl, post_below (pa := MemPlace.row ⟨b, off, none⟩ zs.length) (pv := []) hW' (fun _ _ _ => trodAll_cons_mk (shut_bool Tryz.underlying4 _) trodAll_mk0)
      (fun sp hsp => trodAll_cons_mk (p := []) (hstr W' sp) (trodAll_mk1 (again sp hsp))) (fun _ _ => rfl) (by simp) hb
      (ok_one (by kernel_rfl) rfl (okWide_bool_mk Tryz.underlying4 _))⟩

theorem reads (os : Os) {H : Type} (enc : TypeId × Value → H) : ∃ places, DataW.whole enc Tryz.prog ((laidWorld os).forCall (fun _ _ => 0) ⟨#[], #[.string .empty, .slice none 0 0], []⟩).memory Tryz.f4.params.toList Rows.normalCutsSpec.vars false #[Value.string .empty, .slice none 0 0].toList 8 = some ([.lit (.string []), .nil], [], places) :=
  ⟨[], by kernel_rfl⟩

set_option maxRecDepth 100000 in
theorem lifted (os : Os) (started : os.Started) (H : Type) (enc : TypeId × Value → H) (F : Stop.Interp) :
    ReturnsInHanded {} Tryz.checked os 4 .any ((OpenSpec.ofChange Rows.normalCutsSpec).preRow enc Tryz.prog Tryz.f4 Rows.normalCutsRow.domain false Rows.normalCutsRow.laid) (((OpenSpec.ofChange Rows.normalCutsSpec).at F).post enc Tryz.prog Tryz.f4 false true false false) := by
  obtain ⟨places, hx⟩ := reads os enc
  refine returnsInHanded_of_row (C := Tryz.checked) (s := OpenSpec.ofChange Rows.normalCutsSpec) own_knob started (by kernel_rfl) Tryz.func4
    (witness_row_at (enc := enc) (C := Tryz.checked) false (laidWorld os) #[.string .empty, .slice none 0 0] rfl (by kernel_rfl) (by kernel_rfl) (by kernel_rfl)
      (OpenSpec.preRow_of_cond 8 hx (by kernel_rfl) (fun k hk => by cases hk) (by kernel_rfl) (laid_met os _))) ?_
  intro W base args ds gs before hval hW _ _ hz hL hsh _
  exact contract H enc W base args ds gs before hval hW hz hL hsh

theorem said : Rows.NormalCutsSaid :=
  OpenClaim.holds_of_cond 4 Tryz.f4 rfl rfl rfl rfl rfl rfl rfl ⟨rfl, rfl, rfl, rfl, rfl⟩ rfl rfl rfl rfl rfl (by kernel_rfl) Tryz.func4 (by kernel_rfl)
    (of_decide_eq_true (by kernel_rfl)) (by unfold Func.isWrapper; first | (rw [if_pos (by decide +kernel)]; kernel_rfl) | (rw [if_neg (by decide +kernel)]; exact ⟨rfl, rfl⟩))
    (fun os started H enc _ F => by rw [OpenClaim.pre_eq_preRow]; exact lifted os started H enc F)

/-- No parameter wants a stand-in; the program looks at types. -/
theorem plain (f : FuncId) (fn : Func) (hf : Tryz.pinned.checked.prog.funcNamed "glossary/glossarylaw07.NormalCuts" = some f) (hfn : Tryz.pinned.checked.prog.funcs[f]? = some fn) :
    true = Tryz.pinned.checked.prog.looks [] ∧ ∀ (j : Nat) t, fn.params[j]? = some t → Tryz.pinned.checked.prog.wantsStandIn t = false := by
  obtain rfl : f = 4 := Option.some.inj ((show Tryz.prog.funcNamed "glossary/glossarylaw07.NormalCuts" = some 4 by kernel_rfl).symm.trans hf) |>.symm
  obtain rfl : fn = Tryz.f4 := (Option.some.inj (Tryz.func4.symm.trans hfn)).symm
  refine ⟨by kernel_rfl, fun j t ht => ?_⟩
  rw [Tryz.params4] at ht
  have hm := Array.mem_of_getElem? ht
  simp only [List.mem_toArray, List.mem_cons, List.not_mem_nil, or_false] at hm
  rcases hm with rfl | rfl
  · exact (show Tryz.prog.wantsStandIn 9 = false by kernel_rfl)
  · exact (show Tryz.prog.wantsStandIn 22 = false by kernel_rfl)

/-- The card. -/
theorem card : Rows.NormalCutsCardSaid :=
  Claim7.holds_tied_plain_at .later [] _ _ _ _ said (fun _ h => by cases h) (by kernel_rfl) (fun _ h => by cases h) normalCuts_row_tie rfl ⟨rfl, rfl⟩ (by kernel_rfl) rfl plain (by kernel_rfl)

end Go.Proofs.YtgidpknckbgmbaaGreatDoor.CardCuts
