/- What a row's listed variables give, a world for the witnesses, and a row's post from the frame alone. -/
import Derived.Test.YtgidpknckbgmbaaGreatDoorRows
import Derived.Test.YtgidpknckbgmbaaGreatDoorSpan
import Derived.ChangeSlices
import Derived.ChangeMaps
import Derived.LaidLaws
import Derived.OpenShut
import Derived.Lib.LaidTab
import Derived.Shelf.Vars
set_option linter.unusedSimpArgs false
set_option linter.unusedVariables false
namespace Go.Proofs.YtgidpknckbgmbaaGreatDoor
open Go.ChangeShapes Go.WideShapes Go.RowKit

theorem own_knob : ownKnob Tryz.prog.godebug = none := by kernel_rfl
theorem gName_es : Tryz.prog.globalNamed "strconv.ErrSyntax" = some 1 := by kernel_rfl
theorem gName_er : Tryz.prog.globalNamed "strconv.ErrRange" = some 2 := by kernel_rfl
theorem gType_es : (Tryz.prog.globals[1]?).map (·.type) = some 25 := by kernel_rfl
theorem gType_er : (Tryz.prog.globals[2]?).map (·.type) = some 25 := by kernel_rfl

/-- The rows list the same variables. -/
def laidL : List (String × DataW Unit) := Rows.normalCutsRow.laid

theorem laid_plain {W : World} (h : laidMetH Tryz.prog laidL W) : laidMet Tryz.prog laidL W := h

/-- What the list and the shape of memory give. -/
theorem gl_of_laid {W : World} (h0 : laidMetH Tryz.prog laidL W) (hs : W.ShapedOpen Tryz.prog) : Gl W := by
  have h := laid_plain h0
  obtain ⟨ps, h, _⟩ := h
  obtain ⟨_, _, _, _, _, _, _, _, _, _, h, _⟩ := h
  obtain ⟨_, _, _, _, _, _, _, _, _, _, h, _⟩ := h
  obtain ⟨_, _, _, _, _, _, _, _, _, _, h, _⟩ := h
  obtain ⟨_, _, _, _, _, _, _, _, _, _, h, _⟩ := h
  obtain ⟨g1, t1, cs1, f1, p1, q1, hg1, ht1, hv1, hd1, h, _⟩ := h
  obtain ⟨g2, t2, cs2, f2, p2, q2, hg2, ht2, hv2, hd2, _, _⟩ := h
  obtain rfl := Option.some.inj (gName_er.symm.trans hg1)
  obtain rfl := Option.some.inj (gName_es.symm.trans hg2)
  obtain rfl := Option.some.inj (gType_er.symm.trans ht1)
  obtain rfl := Option.some.inj (gType_es.symm.trans ht2)
  obtain ⟨_, u1, v1, e1, _, _⟩ := iface_of_trod Tryz.underlying25 hd1
  obtain ⟨_, u2, v2, e2, _, _⟩ := iface_of_trod Tryz.underlying25 hd2
  obtain ⟨l1⟩ := cs1
  obtain ⟨l2⟩ := cs2
  simp only at e1 e2
  subst e1 e2
  refine ⟨?_, ⟨u2, v2, by simpa using World.var?_cell hg2 hv2 0⟩, ⟨u1, v1, by simpa using World.var?_cell hg1 hv1 0⟩⟩
  exact cell_of_shapedOpen_int (zero := #[.int .i64 0]) (t := 3) hs (of_decide_eq_true (by kernel_rfl)) (by kernel_rfl) rfl (by kernel_rfl) (by kernel_rfl) Tryz.underlying3

/-- The cells of a listed table. -/
def one1 : DataW Unit → List Value
  | .lit (.int k n) => [.int k n]
  | _ => []
def flat2 : DataW Unit → List Value
  | .agg ps => ps.flatMap one1
  | d => one1 d
def flat3 : DataW Unit → Array Value
  | .agg ps => (ps.flatMap flat2).toArray
  | _ => #[]
def msgSyntax : ByteArray := ⟨#[105, 110, 118, 97, 108, 105, 100, 32, 115, 121, 110, 116, 97, 120]⟩
def msgRange : ByteArray := ⟨#[118, 97, 108, 117, 101, 32, 111, 117, 116, 32, 111, 102, 32, 114, 97, 110, 103, 101]⟩
def lay1 (cs : Array Value) : Obj → Obj
  | .cells _ t frozen => .cells cs t frozen
  | o => o

noncomputable def low : Nat := (World.holding Tryz.prog default ⟨#[], #[], []⟩).heap.size

/-- A world for the witness: the settled one, the listed variables holding what their initialisers lay. -/
noncomputable def laidWorld (os : Os) : World :=
  { World.holding Tryz.prog os ⟨#[.cells #[.string msgRange] 178, .cells #[.string msgSyntax] 178], #[], []⟩ with
    heap := ((((((((World.holding Tryz.prog os ⟨#[.cells #[.string msgRange] 178, .cells #[.string msgSyntax] 178], #[], []⟩).heap.modify
      2 (lay1 #[.iface 176 (.pointer (some ⟨low, 0, none⟩))])).modify
      1 (lay1 #[.iface 176 (.pointer (some ⟨low + 1, 0, none⟩))])).modify
      3 (lay1 (flat3 Rows.laid_unicode_utf8_first))).modify
      4 (lay1 (flat3 Rows.laid_unicode_utf8_acceptRanges))).modify
      5 (lay1 (flat3 Rows.laid_internal_strconv_uint64pow10))).modify
      6 (lay1 (flat3 Rows.laid_math_bits_deBruijn32tab))).modify
      7 (lay1 (flat3 Rows.laid_math_bits_deBruijn64tab))) }

set_option maxRecDepth 100000 in
theorem laid_met (os : Os) (args : Array Value) : laidMet Tryz.prog laidL ((laidWorld os).forCall (fun _ _ => 0) ⟨#[], args, []⟩).memory :=
  laidMet_of_run' 8 (by kernel_rfl) (by kernel_rfl)

/-- The row's post, where nothing that was there has turned. -/
theorem post_below {P : Program} {H : Type} {enc : TypeId × Value → H} {f : Func} {s : ChangeSpec} {apart fresh handsOn again : Bool} {W W' : World} {args : Array Value} {v : Value} {ds gs : List (DataW H)} {before pa pv : List MemPlace}
    (hW : DataW.Whole enc P f.params.toList s.vars apart W args.toList ds gs before)
    (hres : ∀ (b : Nat) (sp : Nat → Bool) (hd : Bool), DataW.TrodAll enc P W' b sp hd f.resultTypes.toList (v.resultList f.resultTypes.size) (s.fn H (ds ++ gs)).results [])
    (hargs : ∀ sp : Nat → Bool, (∀ p ∈ before, sp p.block = true) → DataW.TrodAll enc P W' 0 sp true f.params.toList args.toList (s.fn H (ds ++ gs)).args pa)
    (hvars : ∀ sp : Nat → Bool, (∀ p ∈ before, sp p.block = true) → DataW.TrodVars enc P W' sp s.vars (s.fn H (ds ++ gs)).vars pv)
    (hps : before = pa ++ pv) (hb : Below W.heap.size W W')
    (hok : ∀ (j : Nat) (t : TypeId) (r : Value), f.resultTypes[j]? = some t → (v.resultList f.resultTypes.size)[j]? = some r → Value.okWide P W' .any 0 t r) :
    s.post enc P f apart fresh handsOn again W args v W' := by
  have hlt : ∀ p ∈ before, (fun b => decide (b < W.heap.size)) p.block = true := fun p hp => by simpa using hW.lt p hp
  have hin : ∀ p, p ∈ before → p ∈ pa ++ pv := fun p hp => by rw [← hps]; exact hp
  refine ⟨ds, gs, before, [], pa, pv, hW, hres _ _ _, hargs _ hlt, hvars _ hlt, World.keptBut_mono (fun p hp => ⟨hp, .inr (List.mem_append.1 (hin p hp))⟩) (hb.frame _), fun _ => ?_⟩
  refine ⟨hok, _, _, ([] ++ pa) ++ pv, ⟨[] ++ pa, pv, trodAll_append (hargs _ (fun _ _ => rfl)) (hres _ _ _), hvars _ (fun _ _ => rfl), rfl, fun b off hp => ?_, fun ha => ?_⟩, fun p hp _ => ?_⟩
  · have hp' : MemPlace.cell b off ∈ before := by rw [hps]; simpa using hp
    obtain ⟨_, _, _, _, _, hz, _⟩ := hW
    have h1 : b < W.heap.size := of_decide_eq_true (hlt _ hp')
    rw [hb.frozen h1]
    exact hz b off hp'
  · obtain ⟨_, _, _, _, _, _, hn⟩ := hW
    have := hn ha
    rw [hps] at this
    simpa using this
  · rw [hps]
    simpa using hp

end Go.Proofs.YtgidpknckbgmbaaGreatDoor
