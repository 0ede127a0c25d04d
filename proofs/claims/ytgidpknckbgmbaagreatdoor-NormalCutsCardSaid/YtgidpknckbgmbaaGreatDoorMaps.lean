/- Maps as plain lists of keys and values: what a look-up gives, what a store leaves. -/
import Derived.Maps.OwnSet
import Derived.Maps.RangeWalk
import Derived.WalkKit
set_option linter.unusedSimpArgs false
set_option linter.unusedVariables false
namespace Go.Proofs.YtgidpknckbgmbaaGreatDoor
open Go.RowKit Go.MapKept Go.ChangeMaps
open Go.Maps (Keyed)

section
variable {α β γ : Type} [DecidableEq α]
/-- The value at a key. -/
def getKV : List (α × β) → α → Option β
  | [], _ => none
  | (x, v) :: r, a => if x = a then some v else getKV r a
/-- A value put at a key: in its place if the key is there, else behind. -/
def putKV : List (α × β) → α → β → List (α × β)
  | [], a, v => [(a, v)]
  | (x, u) :: r, a, v => if x = a then (x, v) :: r else (x, u) :: putKV r a v

theorem getKV_put_same (l : List (α × β)) (a : α) (v : β) : getKV (putKV l a v) a = some v := by
  induction l with
  | nil => simp [putKV, getKV]
  | cons p r ih =>
    obtain ⟨x, u⟩ := p
    by_cases h : x = a <;> simp [putKV, getKV, h, ih]
theorem getKV_put_other (l : List (α × β)) {a a' : α} (v : β) (h : a' ≠ a) : getKV (putKV l a v) a' = getKV l a' := by
  induction l with
  | nil => simp [putKV, getKV, h.symm]
  | cons p r ih =>
    obtain ⟨x, u⟩ := p
    by_cases hx : x = a
    · subst hx; simp [putKV, getKV, h.symm]
    · by_cases hx' : x = a'
      · subst hx'; simp [putKV, getKV, hx]
      · simp [putKV, getKV, hx, hx', ih]
theorem getKV_mem {l : List (α × β)} {a : α} {v : β} (h : getKV l a = some v) : (a, v) ∈ l := by
  induction l with
  | nil => simp [getKV] at h
  | cons p r ih =>
    obtain ⟨x, u⟩ := p
    by_cases hx : x = a
    · subst hx; simp [getKV] at h; subst h; simp
    · simp [getKV, hx] at h; exact List.mem_cons_of_mem _ (ih h)
theorem getKV_none {l : List (α × β)} {a : α} : getKV l a = none ↔ ∀ p ∈ l, p.1 ≠ a := by
  induction l with
  | nil => simp [getKV]
  | cons p r ih =>
    obtain ⟨x, u⟩ := p
    by_cases hx : x = a
    · subst hx; simp [getKV]
    · simp [getKV, hx, ih]
theorem putKV_none {l : List (α × β)} {a : α} {v : β} (h : getKV l a = none) : putKV l a v = l ++ [(a, v)] := by
  induction l with
  | nil => simp [putKV]
  | cons p r ih =>
    obtain ⟨x, u⟩ := p
    by_cases hx : x = a
    · subst hx; simp [getKV] at h
    · simp [getKV, hx] at h; simp [putKV, hx, ih h]
theorem putKV_keys (l : List (α × β)) (a : α) (v : β) : ∀ p ∈ putKV l a v, p.1 = a ∨ ∃ q ∈ l, q.1 = p.1 := by
  induction l with
  | nil => intro p hp; simp [putKV] at hp; simp [hp]
  | cons q r ih =>
    obtain ⟨x, u⟩ := q
    intro p hp
    by_cases hx : x = a
    · simp [putKV, hx] at hp
      rcases hp with rfl | hp
      · exact .inl rfl
      · exact .inr ⟨p, List.mem_cons_of_mem _ hp, rfl⟩
    · simp [putKV, hx] at hp
      rcases hp with rfl | hp
      · exact .inr ⟨(x, u), by simp, rfl⟩
      · rcases ih p hp with h | ⟨q, hq, h⟩
        · exact .inl h
        · exact .inr ⟨q, List.mem_cons_of_mem _ hq, h⟩
theorem putKV_length (l : List (α × β)) (a : α) (v : β) : (putKV l a v).length ≤ l.length + 1 := by
  induction l with
  | nil => simp [putKV]
  | cons p r ih =>
    obtain ⟨x, u⟩ := p
    by_cases hx : x = a <;> simp [putKV, hx]; omega

/-- Two lists with the same keys in the same order, the values related. -/
inductive RelKV (R : β → γ → Prop) : List (α × β) → List (α × γ) → Prop
  | nil : RelKV R [] []
  | cons (a : α) {x : β} {y : γ} {l : List (α × β)} {m : List (α × γ)} (h : R x y) (t : RelKV R l m) : RelKV R ((a, x) :: l) ((a, y) :: m)

variable {R R' : β → γ → Prop} {l : List (α × β)} {m : List (α × γ)}
omit [DecidableEq α] in
theorem RelKV.mono (h : RelKV R l m) (hR : ∀ x y, R x y → R' x y) : RelKV R' l m := by
  induction h with
  | nil => exact .nil
  | cons a h _ ih => exact .cons a (hR _ _ h) ih
theorem RelKV.get_some (h : RelKV R l m) {a : α} {x : β} (hx : getKV l a = some x) : ∃ y, getKV m a = some y ∧ R x y := by
  induction h with
  | nil => simp [getKV] at hx
  | cons b h _ ih =>
    by_cases hb : b = a
    · subst hb; simp [getKV] at hx; subst hx; exact ⟨_, by simp [getKV], h⟩
    · simp [getKV, hb] at hx ⊢; exact ih hx
theorem RelKV.get_none (h : RelKV R l m) {a : α} (hx : getKV l a = none) : getKV m a = none := by
  induction h with
  | nil => simp [getKV]
  | cons b h _ ih =>
    by_cases hb : b = a
    · subst hb; simp [getKV] at hx
    · simp [getKV, hb] at hx ⊢; exact ih hx
theorem RelKV.put (h : RelKV R l m) (a : α) {x : β} {y : γ} (hxy : R x y) : RelKV R (putKV l a x) (putKV m a y) := by
  induction h with
  | nil => exact .cons a hxy .nil
  | cons b h t ih =>
    by_cases hb : b = a
    · simp [putKV, hb]; exact .cons a hxy t
    · simp [putKV, hb]; exact .cons b h ih
end

/-- Block b of w is a map with just these keys and values, the keys of type k written by enc. -/
def MapIs {α : Type} (P : Program) (k : TypeId) (enc : α → Value) (w : World) (b : Nat) (kv : List (α × Value)) : Prop :=
  ∃ es clock, w.heap[b]? = some (.map es clock) ∧ Stamped es clock ∧ es.toList.map (fun e => (e.key, e.val)) = kv.map (fun p => (enc p.1, p.2)) ∧ ∀ p ∈ kv, ∃ l, keyOf P k (enc p.1) = some l

section
variable {α : Type} [DecidableEq α] {P : Program} {k t e : TypeId} {enc : α → Value} {w w' : World} {b : Nat} {kv : List (α × Value)}

omit [DecidableEq α] in
theorem MapIs.lt (h : MapIs P k enc w b kv) : b < w.heap.size := by
  obtain ⟨es, clock, hb, _⟩ := h
  exact (Array.getElem?_eq_some_iff.1 hb).1
omit [DecidableEq α] in
theorem MapIs.of_block (h : MapIs P k enc w b kv) (hb : w'.heap[b]? = w.heap[b]?) : MapIs P k enc w' b kv := by
  obtain ⟨es, clock, h1, h2⟩ := h
  exact ⟨es, clock, hb.trans h1, h2⟩
omit [DecidableEq α] in
theorem MapIs.below {B : Nat} (h : MapIs P k enc w b kv) (hb : Below B w w') (hB : b < B) : MapIs P k enc w' b kv := h.of_block (hb.block b hB)
omit [DecidableEq α] in
theorem MapIs.grown {row : Option Nat} (h : MapIs P k enc w b kv) (hg : w.grownBy w' row) (hne : some b ≠ row) : MapIs P k enc w' b kv := h.of_block (hg.block b h.lt hne)
omit [DecidableEq α] in
theorem MapIs.alloc (h : MapIs P k enc w b kv) (o : Obj) : MapIs P k enc (w.alloc o) b kv := h.of_block (Below.heap_alloc w o b h.lt)
omit [DecidableEq α] in
theorem MapIs.drew (h : MapIs P k enc w b kv) : MapIs P k enc w.drew b kv := h
omit [DecidableEq α] in
theorem MapIs.setCell (h : MapIs P k enc w b kv) {p : Addr} (hp : b ≠ p.block) (u : Value) : MapIs P k enc (w.setCell p u) b kv := h.of_block (Below.heap_setCell w p u b hp)
omit [DecidableEq α] in
theorem MapIs.made (w : World) (P : Program) (k : TypeId) (enc : α → Value) : MapIs P k enc (w.alloc (.map #[] 0)) w.heap.size [] :=
  ⟨#[], 0, heap_alloc_new w _, stamped_empty 0, by simp, by simp⟩

omit [DecidableEq α] in
theorem MapIs.find (h : MapIs P k enc w b kv) (K : Keyed P k) (hinj : ∀ x y, enc x = enc y → x = y) (a : α) {kl : Lit} (hkey : keyOf P k (enc a) = some kl) :
    ∃ es clock, w.heap[b]? = some (.map es clock) ∧ Stamped es clock ∧ es.toList.map (fun e => (e.key, e.val)) = kv.map (fun p => (enc p.1, p.2)) ∧
      (((Instr.findKey k (enc a) es.toList).run P w = .ok none w ∧ (∀ x ∈ es.toList, x.key ≠ enc a) ∧ ∀ p ∈ kv, p.1 ≠ a) ∨
       ∃ j e0 v, (Instr.findKey k (enc a) es.toList).run P w = .ok (some (j, v)) w ∧ es.toList[j]? = some e0 ∧ e0.key = enc a ∧ e0.val = v ∧ kv[j]? = some (a, v)) := by
  obtain ⟨es, clock, hb, hs, he, hk⟩ := h
  refine ⟨es, clock, hb, hs, he, ?_⟩
  have hkeys : ∀ x ∈ es.toList, ∃ l, keyOf P k x.key = some l := fun x hx => by
    have : (x.key, x.val) ∈ kv.map (fun p => (enc p.1, p.2)) := by rw [← he]; exact List.mem_map.2 ⟨x, hx, rfl⟩
    obtain ⟨p, hp, e1⟩ := List.mem_map.1 this
    obtain ⟨l, hl⟩ := hk p hp
    have e2 : enc p.1 = x.key := congrArg Prod.fst e1
    exact ⟨l, e2 ▸ hl⟩
  rcases K.find w hkey es.toList hkeys with ⟨h1, h2⟩ | ⟨j, e0, h1, h2, h3⟩
  · refine .inl ⟨h1, h2, fun p hp e1 => ?_⟩
    have : (enc p.1, p.2) ∈ es.toList.map (fun e => (e.key, e.val)) := by rw [he]; exact List.mem_map.2 ⟨p, hp, rfl⟩
    obtain ⟨x, hx, e2⟩ := List.mem_map.1 this
    have e3 : x.key = enc p.1 := congrArg Prod.fst e2
    exact h2 x hx (by rw [e3, e1])
  · refine .inr ⟨j, e0, e0.val, h1, h2, h3, rfl, ?_⟩
    have : (es.toList.map (fun e => (e.key, e.val)))[j]? = some (e0.key, e0.val) := by rw [List.getElem?_map, h2]; rfl
    rw [he, List.getElem?_map] at this
    obtain ⟨p, hp, e1⟩ := Option.map_eq_some_iff.1 this
    have e2 : enc p.1 = enc a := by have := congrArg Prod.fst e1; exact this.trans h3
    have e3 : p.2 = e0.val := congrArg Prod.snd e1
    rw [hp, ← hinj _ _ e2, ← e3]

omit [DecidableEq α] in
theorem MapIs.nodup (h : MapIs P k enc w b kv) : (kv.map (·.1)).Nodup := by
  obtain ⟨es, clock, hb, ⟨_, _, hs⟩, he, hk⟩ := h
  have : es.toList.map (·.key) = (kv.map (·.1)).map enc := by
    have := congrArg (List.map Prod.fst) he
    simpa [List.map_map, Function.comp_def] using this
  rw [this] at hs
  exact (List.pairwise_map.1 hs).imp (fun h e => h (by rw [e]))

theorem getKV_of_get {kv : List (α × Value)} (hn : (kv.map (·.1)).Nodup) {j : Nat} {a : α} {v : Value} (h : kv[j]? = some (a, v)) : getKV kv a = some v := by
  induction kv generalizing j with
  | nil => simp at h
  | cons p r ih =>
    obtain ⟨x, u⟩ := p
    cases j with
    | zero => simp at h; obtain ⟨rfl, rfl⟩ := h; simp [getKV]
    | succ j =>
      simp at h hn
      have hm : a ∈ r.map (·.1) := List.mem_map.2 ⟨(a, v), List.mem_of_getElem? h, rfl⟩
      have : x ≠ a := fun e => by subst e; obtain ⟨q, hq, e2⟩ := List.mem_map.1 hm; obtain ⟨q1, q2⟩ := q; simp at e2; subst e2; exact hn.1 _ hq
      simp [getKV, this]
      exact ih hn.2 h

/-- WHAT A LOOK-UP GIVES. -/
def lookVal (c : Bool) (z : Value) : Option Value → Value
  | some v => if c then .tuple #[v, .bool true] else v
  | none => if c then .tuple #[z, .bool false] else z

theorem MapIs.look (h : MapIs P k enc w b kv) (c : Bool) (K : Keyed P k) (ht : P.underlying t = some (.map k e)) {z : Value} (hz : (zeroValue e).run P w = .ok z w) (hinj : ∀ x y, enc x = enc y → x = y) (a : α) {kl : Lit} (hkey : keyOf P k (enc a) = some kl) :
    (Instr.lookup t (.map (some b)) (enc a) c).run P w = .ok (lookVal c z (getKV kv a)) w := by
  have hn := h.nodup
  obtain ⟨es, clock, hb, hs, he, ⟨h1, h2, h3⟩ | ⟨j, e0, v, h1, h2, h3, rfl, h4⟩⟩ := h.find K hinj a hkey
  · rw [getKV_none.2 h3]
    simp [Instr.lookup, run_underlying ht, MapKept.run_getObj_map hb, K.check w _ hkey, h1, hz, Result.andThen, lookVal]
  · rw [getKV_of_get hn h4]
    simp [Instr.lookup, run_underlying ht, MapKept.run_getObj_map hb, K.check w _ hkey, h1, Result.andThen, lookVal]

theorem putKV_of_get {kv : List (α × Value)} (hn : (kv.map (·.1)).Nodup) {j : Nat} {a : α} {u v : Value} (h : kv[j]? = some (a, u)) : putKV kv a v = kv.set j (a, v) := by
  induction kv generalizing j with
  | nil => simp at h
  | cons p r ih =>
    obtain ⟨x, u'⟩ := p
    cases j with
    | zero => simp at h; obtain ⟨rfl, rfl⟩ := h; simp [putKV]
    | succ j =>
      simp at h hn
      have hm : a ∈ r.map (·.1) := List.mem_map.2 ⟨(a, u), List.mem_of_getElem? h, rfl⟩
      have : x ≠ a := fun e => by subst e; obtain ⟨q, hq, e2⟩ := List.mem_map.1 hm; obtain ⟨q1, q2⟩ := q; simp at e2; subst e2; exact hn.1 _ hq
      simp [putKV, this]
      exact ih hn.2 h

theorem MapIs.store (h : MapIs P k enc w b kv) (K : Keyed P k) (ht : P.underlying t = some (.map k e)) (hinj : ∀ x y, enc x = enc y → x = y) (a : α) {kl : Lit} (hkey : keyOf P k (enc a) = some kl) (val : Value) :
    ∃ w', (Instr.mapUpdate t (.map (some b)) (enc a) val).run P w = .ok () w' ∧ MapIs P k enc w' b (putKV kv a val) ∧ w.mapTurned w' b := by
  have hn := h.nodup
  have hks : ∀ p ∈ kv, ∃ l, keyOf P k (enc p.1) = some l := by obtain ⟨_, _, _, _, _, hk⟩ := h; exact hk
  have hks' : ∀ p ∈ putKV kv a val, ∃ l, keyOf P k (enc p.1) = some l := fun p hp => by
    rcases putKV_keys kv a val p hp with e1 | ⟨q, hq, e1⟩
    · rw [e1]; exact ⟨kl, hkey⟩
    · rw [← e1]; exact hks q hq
  obtain ⟨es, clock, hb, hs, he, ⟨h1, h2, h3⟩ | ⟨j, e0, v, h1, h2, h3, rfl, h4⟩⟩ := h.find K hinj a hkey
  · refine ⟨setBlock w b (.map (es.push ⟨enc a, val, clock⟩) (clock + 1)), ?_, ⟨es.push ⟨enc a, val, clock⟩, clock + 1, heap_setBlock_same hb _, stamped_push hs h2, ?_, hks'⟩, ⟨es, clock, _, _, hb, rfl⟩⟩
    · simp [Instr.mapUpdate, run_underlying ht, MapKept.run_getObj_map hb, K.check w false hkey, h1, MapKept.run_setObj_map _ hb, Result.andThen, setBlock]
    · rw [putKV_none (getKV_none.2 h3), Array.toList_push, List.map_append, List.map_append, he]; rfl
  · have hj : es[j]? = some e0 := by simpa using h2
    have hkeyf : ∀ e', es[j]? = some e' → ({ e' with key := enc a, val := val } : MapEntry).key = e'.key := fun e' he' => by rw [hj] at he'; cases he'; exact h3.symm
    refine ⟨setBlock w b (.map (es.modify j (fun e' => { e' with key := enc a, val := val })) clock), ?_, ⟨es.modify j (fun e' => { e' with key := enc a, val := val }), clock, heap_setBlock_same hb _, stamped_modify hs _ _ (fun _ _ => rfl) (fun e' _ he' => hkeyf e' he'), ?_, hks'⟩, ⟨es, clock, _, _, hb, rfl⟩⟩
    · simp [Instr.mapUpdate, run_underlying ht, MapKept.run_getObj_map hb, K.check w false hkey, h1, hj, h3, K.stays w hkey, MapKept.run_setObj_map _ hb, Result.andThen, setBlock]
    · rw [Array.toList_modify, modify_eq_set _ _ _ _ h2, List.map_set, he, putKV_of_get hn h4, List.map_set]

/-- 'm[k]', 'v, ok := m[k]' AT THE OPERATION. -/
theorem wpList_lookup_is (w : World) {ops : Array Oper} {rest : List Oper} {o : Oper} {ac : Act} {Q : Exit → Act → World → Prop}
    (hg : o.guard = none) (m x : Operand) (t : TypeId) (c : Bool) (hop : o.op = Op.lookup t m x c) (k e : TypeId) (K : Keyed P k) (ht : P.underlying t = some (.map k e)) (z : Value) (hz : (zeroValue e).run P w = .ok z w)
    (enc : α → Value) (hinj : ∀ x y, enc x = enc y → x = y) (b : Nat) (kv : List (α × Value)) (hm : ac.eval m = .map (some b)) (hown : MapIs P k enc w b kv) (a : α) (kl : Lit) (hx : ac.eval x = enc a) (hkey : keyOf P k (enc a) = some kl)
    (hK : wpList P ops Q rest (ac.put o.dst (lookVal c z (getKV kv a))) w) : wpList P ops Q (o :: rest) ac w := by
  refine wpList_plain hg fun K' hK' => ?_
  have hrun := hown.look c K ht hz hinj a hkey
  unfold Oper.wp
  simp [execOp, hop, hm, hx, hrun, Result.andThen]
  exact hK' _ _ hK

/-- 'm[k] = v' AT THE OPERATION. -/
theorem wpList_mapUpdate_is (w : World) {ops : Array Oper} {rest : List Oper} {o : Oper} {ac : Act} {Q : Exit → Act → World → Prop}
    (hg : o.guard = none) (m x v : Operand) (t : TypeId) (hop : o.op = Op.mapUpdate t m x v) (k e : TypeId) (K : Keyed P k) (ht : P.underlying t = some (.map k e))
    (enc : α → Value) (hinj : ∀ x y, enc x = enc y → x = y) (b : Nat) (kv : List (α × Value)) (hm : ac.eval m = .map (some b)) (hown : MapIs P k enc w b kv) (a : α) (val : Value) (kl : Lit) (hx : ac.eval x = enc a) (hv : ac.eval v = val) (hkey : keyOf P k (enc a) = some kl)
    (hK : ∀ w', MapIs P k enc w' b (putKV kv a val) → w.mapTurned w' b → wpList P ops Q rest (ac.put o.dst undef) w') : wpList P ops Q (o :: rest) ac w := by
  refine wpList_plain hg fun K' hK' => ?_
  obtain ⟨w', hrun, r1, r2⟩ := hown.store K ht hinj a hkey val
  unfold Oper.wp
  simp [execOp, hop, hm, hx, hv, hrun, Result.andThen]
  exact hK' _ _ (hK w' r1 r2)
end

end Go.Proofs.YtgidpknckbgmbaaGreatDoor
