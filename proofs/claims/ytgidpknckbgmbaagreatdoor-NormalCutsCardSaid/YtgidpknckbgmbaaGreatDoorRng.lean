/- Ranging over a map: every key comes once, in whatever order. -/
import Derived.Test.YtgidpknckbgmbaaGreatDoorMaps
set_option linter.unusedSimpArgs false
set_option linter.unusedVariables false
namespace Go.Proofs.YtgidpknckbgmbaaGreatDoor
open Go.RowKit Go.MapKept Go.ChangeMaps
open Go.Maps (Keyed)

section
variable {α : Type} [DecidableEq α] {P : Program} {k t e : TypeId} {enc : α → Value} {w w' : World} {b r : Nat} {kv : List (α × Value)} {done : List α} {cnt : Nat}

/-- Block r ranges over the map in block b; the keys in done have come, cnt are left. -/
def RngIs (P : Program) (k : TypeId) (enc : α → Value) (w : World) (b r : Nat) (kv : List (α × Value)) (done : List α) (cnt : Nat) : Prop :=
  MapIs P k enc w b kv ∧ ∃ es clock since seen c0, w.heap[b]? = some (.map es clock) ∧ w.heap[r]? = some (.mapIter (some b) since seen c0) ∧ (∀ x ∈ es.toList, x.born < since) ∧ since ≤ c0 ∧ since ≤ clock ∧ (leftOf es seen).size = cnt ∧ done.Nodup ∧
    (∀ a ∈ done, ∃ x ∈ es.toList, x.key = enc a ∧ seen.contains x.born = true) ∧ ∀ x ∈ es.toList, seen.contains x.born = true → ∃ a ∈ done, x.key = enc a

omit [DecidableEq α] in
theorem RngIs.map (h : RngIs P k enc w b r kv done cnt) : MapIs P k enc w b kv := h.1
omit [DecidableEq α] in
theorem RngIs.lt (h : RngIs P k enc w b r kv done cnt) : r < w.heap.size := by
  obtain ⟨_, es, clock, since, seen, c0, _, hr, _⟩ := h
  exact (Array.getElem?_eq_some_iff.1 hr).1
omit [DecidableEq α] in
theorem RngIs.nodup (h : RngIs P k enc w b r kv done cnt) : done.Nodup := by
  obtain ⟨_, es, clock, since, seen, c0, _, _, _, _, _, _, hn, _⟩ := h
  exact hn
omit [DecidableEq α] in
theorem RngIs.left (h : RngIs P k enc w b r kv done cnt) : w.rangeLeft b r = cnt := by
  obtain ⟨_, es, clock, since, seen, c0, hb, hr, _, _, _, hc, _⟩ := h
  simp only [World.rangeLeft, hb, hr]
  exact hc
omit [DecidableEq α] in
theorem RngIs.iter (h : RngIs P k enc w b r kv done cnt) : ∃ since seen c0, w.heap[r]? = some (.mapIter (some b) since seen c0) := by
  obtain ⟨_, es, clock, since, seen, c0, _, hr, _⟩ := h
  exact ⟨_, _, _, hr⟩
omit [DecidableEq α] in
theorem RngIs.kept {row : Option Nat} (h : RngIs P k enc w b r kv done cnt) (hg : w.grownBy w' row) (hb' : some b ≠ row) (hr' : some r ≠ row) : RngIs P k enc w' b r kv done cnt := by
  have h1 := h.map.lt
  have h2 := h.lt
  obtain ⟨hm, es, clock, since, seen, c0, hb, hr, rest⟩ := h
  exact ⟨hm.grown hg hb', es, clock, since, seen, c0, (hg.block b h1 hb').trans hb, (hg.block r h2 hr').trans hr, rest⟩
omit [DecidableEq α] in
theorem RngIs.start (h : MapIs P k enc w b kv) (ht : P.underlying t = some (.map k e)) : ∃ w', (Instr.range t (.map (some b))).run P w = .ok (.pointer (some ⟨w.heap.size, 0, none⟩)) w' ∧ RngIs P k enc w' b w.heap.size kv [] kv.length ∧ w.grownBy w' none ∧ w'.heap.size = w.heap.size + 1 := by
  have hlt := h.lt
  have hh := h
  obtain ⟨es, clock, hb, hs, he, hk⟩ := h
  refine ⟨_, run_range_map w t k e b es clock ht hb, ⟨hh.alloc _, es, clock, clock, #[], clock, ((MapKept.heap_alloc w _).2 b hlt).trans hb, (MapKept.heap_alloc w _).1, hs.1, Nat.le_refl _, Nat.le_refl _, ?_, List.nodup_nil, by simp, by simp⟩, World.grownBy_alloc w _ none, by simp⟩
  have := congrArg List.length he
  simp at this
  have h2 : leftOf es #[] = es := by simp [leftOf]
  rw [h2]
  exact this
omit [DecidableEq α] in
theorem RngIs.next (h : RngIs P k enc w b r kv done cnt) (hinj : ∀ x y, enc x = enc y → x = y) (ty : TypeId) :
    ((Instr.next (.pointer (some ⟨r, 0, none⟩)) false ty).run P w = .ok (.tuple #[.bool false]) w ∧ ∀ a, a ∈ done ↔ ∃ p ∈ kv, p.1 = a) ∨
    ∃ a v w' cnt', (Instr.next (.pointer (some ⟨r, 0, none⟩)) false ty).run P w = .ok (.tuple #[.bool true, enc a, v]) w' ∧ (a, v) ∈ kv ∧ RngIs P k enc w' b r kv (done ++ [a]) cnt' ∧ cnt' < cnt ∧ w.grownBy w' (some r) ∧ w'.heap.size = w.heap.size ∧
      (Instr.entry (.pointer (some ⟨r, 0, none⟩))).run P w' = .ok (.tuple #[enc a, v]) w' := by
  obtain ⟨hm, es, clock, since, seen, c0, hb, hr, hold, hsc, hsk, rfl, hn, hd1, hd2⟩ := h
  have hm' := hm
  obtain ⟨es', clock', hb', hs, he, hk⟩ := hm
  have hes : es' = es := by rw [hb] at hb'; cases hb'; rfl
  subst hes
  have hcl : clock' = clock := by rw [hb] at hb'; cases hb'; rfl
  subst hcl
  have hst := (stamped_iff es' clock').1 hs
  have hmem : ∀ x ∈ es'.toList, ∃ p ∈ kv, x.key = enc p.1 ∧ x.val = p.2 := fun x hx => by
    have : (x.key, x.val) ∈ es'.toList.map (fun e => (e.key, e.val)) := List.mem_map.2 ⟨x, hx, rfl⟩
    rw [he] at this
    obtain ⟨p, hp, e⟩ := List.mem_map.1 this
    exact ⟨p, hp, (congrArg Prod.fst e).symm, (congrArg Prod.snd e).symm⟩
  have hmem' : ∀ p ∈ kv, ∃ x ∈ es'.toList, x.key = enc p.1 := fun p hp => by
    have : (enc p.1, p.2) ∈ es'.toList.map (fun e => (e.key, e.val)) := by rw [he]; exact List.mem_map.2 ⟨p, hp, rfl⟩
    obtain ⟨x, hx, e⟩ := List.mem_map.1 this
    exact ⟨x, hx, congrArg Prod.fst e⟩
  rcases run_next_at (P := P) w ty r b since c0 seen es' clock' hr hb hold hsc with ⟨h0, hrun⟩ | ⟨e, he', w1, hal, hrun⟩
  · refine .inl ⟨hrun, fun a => ⟨fun ha => ?_, ?_⟩⟩
    · obtain ⟨x, hx, hxk, _⟩ := hd1 a ha
      obtain ⟨p, hp, hpk, _⟩ := hmem x hx
      exact ⟨p, hp, hinj _ _ (hpk.symm.trans hxk)⟩
    · rintro ⟨p, hp, rfl⟩
      obtain ⟨x, hx, hxk⟩ := hmem' p hp
      obtain ⟨a, ha, hak⟩ := hd2 x hx (all_seen es' seen h0 x hx)
      rw [← hinj _ _ (hak.symm.trans hxk)]
      exact ha
  · obtain ⟨hem, hes⟩ := mem_left he'
    obtain ⟨p, hp, hpk, hpv⟩ := hmem e hem
    have hr1 : w1.heap[r]? = some (.mapIter (some b) since seen c0) := by rcases hal with rfl | rfl <;> exact hr
    have hb1 : w1.heap[b]? = some (.map es' clock') := by rcases hal with rfl | rfl <;> exact hb
    have hne : b ≠ r := by rintro rfl; rw [hb] at hr; cases hr
    have hset := heap_set (o' := .mapIter (some b) since (seen.push e.born) clock') hr1
    have hb2 : (setBlock w1 r (.mapIter (some b) since (seen.push e.born) clock')).heap[b]? = some (.map es' clock') := (hset.2 b hne).trans hb1
    have hnew : p.1 ∉ done := fun hin => by
      obtain ⟨x, hx, hxk, hxs⟩ := hd1 p.1 hin
      have : x = e := entry_eq_of_key hst.2.2 hx hem (hxk.trans hpk.symm)
      rw [this, hes] at hxs
      cases hxs
    refine .inr ⟨p.1, p.2, _, _, by rw [← hpk, ← hpv]; exact hrun, hp, ⟨hm'.of_block (hb2.trans hb.symm), es', clock', since, seen.push e.born, clock', hb2, hset.1, hold, hsk, hsk, rfl, ?_, ?_, ?_⟩, left_shrinks es' seen e he', ?_, ?_,
      by rw [← hpk, ← hpv]; exact run_entry_at _ r b since seen es' clock' e hset.1 hb2 hem hst.2.1⟩
    · rw [List.nodup_append]
      exact ⟨hn, List.nodup_cons.2 ⟨by simp, List.nodup_nil⟩, fun x hx y hy e1 => by simp at hy; subst hy; subst e1; exact hnew hx⟩
    · intro a ha
      rcases List.mem_append.1 ha with ha | ha
      · obtain ⟨x, hx, hxk, hxs⟩ := hd1 a ha
        exact ⟨x, hx, hxk, by rw [contains_push, hxs]; rfl⟩
      · simp at ha; subst ha
        exact ⟨e, hem, hpk, by rw [contains_push]; simp⟩
    · intro x hx hxs
      rw [contains_push] at hxs
      simp only [Bool.or_eq_true, beq_iff_eq] at hxs
      rcases hxs with h | h
      · obtain ⟨a, ha, hak⟩ := hd2 x hx h
        exact ⟨a, by simp [ha], hak⟩
      · obtain rfl := born_inj hst.2.1 hx hem h
        exact ⟨p.1, by simp, hpk⟩
    · rcases hal with rfl | rfl <;> exact ⟨rfl, rfl, rfl, by simp [setBlock], fun i _ hi => hset.2 i (fun e1 => hi (by rw [e1]))⟩
    · rcases hal with rfl | rfl <;> simp [setBlock]

omit [DecidableEq α] in
theorem wpList_range_is (w : World) {ops : Array Oper} {rest : List Oper} {o : Oper} {ac : Act} {Q : Exit → Act → World → Prop} (hg : o.guard = none) (m : Operand) (t : TypeId) (hop : o.op = Op.range t m) (k e : TypeId) (ht : P.underlying t = some (.map k e)) (enc : α → Value) (b : Nat) (kv : List (α × Value))
    (hm : ac.eval m = .map (some b)) (hown : MapIs P k enc w b kv)
    (hK : ∀ w', RngIs P k enc w' b w.heap.size kv [] kv.length → w.grownBy w' none → w'.heap.size = w.heap.size + 1 → wpList P ops Q rest (ac.put o.dst (.pointer (some ⟨w.heap.size, 0, none⟩))) w') :
    wpList P ops Q (o :: rest) ac w := by
  refine wpList_plain hg fun K' hK' => ?_
  obtain ⟨w', hrun, r1, r2, r3⟩ := RngIs.start hown ht
  unfold Oper.wp
  simp [execOp, hop, hm, hrun, Result.andThen]
  exact hK' _ _ (hK w' r1 r2 r3)

omit [DecidableEq α] in
theorem wpList_next_is (w : World) {ops : Array Oper} {rest : List Oper} {o : Oper} {ac : Act} {Q : Exit → Act → World → Prop} (hg : o.guard = none) (it : Operand) (hop : o.op = Op.next it false) (k : TypeId) (enc : α → Value) (hinj : ∀ x y, enc x = enc y → x = y) (b r : Nat) (kv : List (α × Value)) (done : List α) (cnt : Nat)
    (hit : ac.eval it = .pointer (some ⟨r, 0, none⟩)) (h : RngIs P k enc w b r kv done cnt)
    (hDone : (∀ a, a ∈ done ↔ ∃ p ∈ kv, p.1 = a) → wpList P ops Q rest (ac.put o.dst (.tuple #[.bool false])) w)
    (hMore : ∀ a v w' cnt', (a, v) ∈ kv → RngIs P k enc w' b r kv (done ++ [a]) cnt' → cnt' < cnt → w.grownBy w' (some r) → w'.heap.size = w.heap.size → (Instr.entry (.pointer (some ⟨r, 0, none⟩))).run P w' = .ok (.tuple #[enc a, v]) w' →
      wpList P ops Q rest (ac.put o.dst (.tuple #[.bool true, enc a, v])) w') :
    wpList P ops Q (o :: rest) ac w := by
  refine wpList_plain hg fun K' hK' => ?_
  unfold Oper.wp
  rcases h.next hinj o.type with ⟨hrun, hl⟩ | ⟨a, v, w', cnt', hrun, hmem, hrg, hlt, hgr, hsz, hen⟩
  · simp [execOp, hop, hit, hrun, Result.andThen]
    exact hK' _ _ (hDone hl)
  · simp [execOp, hop, hit, hrun, Result.andThen]
    exact hK' _ _ (hMore a v w' cnt' hmem hrg hlt hgr hsz hen)
end

end Go.Proofs.YtgidpknckbgmbaaGreatDoor
