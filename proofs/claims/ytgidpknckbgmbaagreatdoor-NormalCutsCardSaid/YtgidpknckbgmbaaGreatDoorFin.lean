/- The properties that each law of the layer asks first: what the plain reader makes of them. What the reader takes is fine: classes are small, decompositions end and are short. -/
import Derived.Test.YtgidpknckbgmbaaGreatDoorPrs5
import Derived.Test.YtgidpknckbgmbaaGreatDoorCo
import Derived.KernelRfl
set_option linter.unusedSimpArgs false
set_option linter.unusedVariables false
namespace Go.Proofs.YtgidpknckbgmbaaGreatDoor
open Go.RowKit

def sSmall : ByteArray := ⟨#[99, 108, 97, 115, 115, 32, 48, 51, 48, 48, 46, 46, 48, 51, 48, 52, 32, 50, 51, 48, 10, 99, 108, 97, 115, 115, 32, 48, 51, 48, 50, 32, 48, 10, 99, 108, 97, 115, 115, 32, 48, 51, 50, 55, 32, 50, 48, 50, 10, 100, 101, 99, 111, 109, 112, 32, 48, 48, 67, 48, 32, 48, 48, 52, 49, 32, 48, 51, 48, 48, 10, 100, 101, 99, 111, 109, 112, 32, 49, 69, 65, 54, 32, 48, 48, 67, 48, 32, 48, 51, 48, 49, 10, 100, 101, 99, 111, 109, 112, 32, 48, 48, 67, 53, 32, 48, 48, 52, 49, 32, 48, 51, 48, 48, 10]⟩
def qSmall : PP := ⟨[⟨768, 772, 230⟩, ⟨770, 770, 0⟩, ⟨807, 807, 202⟩], [], [], [(192, [65, 768]), (7846, [192, 769]), (197, [65, 768])], [((65, 768), 192), ((192, 769), 7846)]⟩
def lnSmall : KN := [(192, 4), (7846, 5), (197, 6)]
theorem small_lines : linesF (pieces sSmall) 0 PP.none_ [] = .ok (qSmall, lnSmall) := by kernel_rfl
theorem small_big : tooBig sSmall = false := by kernel_rfl
theorem small_sorted : (lnSmall.map (·.1)).mergeSort (fun x y => decide (x ≤ y)) = [192, 197, 7846] := by
  simp [lnSmall, List.mergeSort, List.MergeSort.Internal.splitInTwo, List.merge]
theorem small_ends : endsF qSmall lnSmall = none := by
  unfold endsF
  rw [small_sorted]
  kernel_rfl
theorem small_parse : parseF sSmall = .ok qSmall := by
  unfold parseF
  rw [small_big, small_lines]
  simp only [small_ends]
  rfl

end Go.Proofs.YtgidpknckbgmbaaGreatDoor

namespace Go.Proofs.YtgidpknckbgmbaaGreatDoor
open Go.RowKit

theorem wfin_more {q : PP} : ∀ (d : Nat) (r : Int), wfin q d r = true → ∀ e, d ≤ e → wfin q e r = true ∧ wholeF q e r = wholeF q d r
  | 0, r, h, e, he => by
    have hd : q.dec r = [] := by simpa [wfin] using h
    rw [wholeF_nil hd, wholeF_nil hd]
    refine ⟨?_, rfl⟩
    cases e with
    | zero => exact h
    | succ e => unfold wfin; rw [hd]; rfl
  | d + 1, r, h, e, he => by
    by_cases hd : q.dec r = []
    · rw [wholeF_nil hd, wholeF_nil hd]
      refine ⟨?_, rfl⟩
      cases e with
      | zero => unfold wfin; rw [hd]; rfl
      | succ e => unfold wfin; rw [hd]; rfl
    · obtain ⟨e, rfl⟩ : ∃ k, e = k + 1 := ⟨e - 1, by omega⟩
      have hx : ∀ x ∈ q.dec r, wfin q d x = true := by unfold wfin at h; simpa using h
      refine ⟨?_, ?_⟩
      · unfold wfin
        rw [List.all_eq_true]
        exact fun x hm => (wfin_more d x (hx x hm) e (by omega)).1
      · rw [wholeF_cons hd, wholeF_cons hd]
        have : ∀ l : List Int, (∀ x ∈ l, wfin q d x = true) → l.flatMap (wholeF q e) = l.flatMap (wholeF q d) := by
          intro l
          induction l with
          | nil => intro _; rfl
          | cons x l ih =>
            intro hl
            rw [List.flatMap_cons, List.flatMap_cons, ih (fun y hy => hl y (by simp [hy])), (wfin_more d x (hl x (by simp)) e (by omega)).2]
        exact this _ hx

def lenW (q : PP) (d : Nat) (r : Int) : Int := ((wholeF q d r).length : Int)
def KnOK (q : PP) (kn : KN) : Prop := ∀ r v, getKV kn r = some v → q.dec r ≠ [] ∧ 0 ≤ v ∧ (v ≠ 0 → ∃ d, wfin q d r = true ∧ v = min 9 (lenW q d r))
theorem KnOK.put {q : PP} {kn : KN} (h : KnOK q kn) {r v : Int} (hd : q.dec r ≠ []) (h0 : 0 ≤ v) (hv : v ≠ 0 → ∃ d, wfin q d r = true ∧ v = min 9 (lenW q d r)) : KnOK q (putKV kn r v) := fun x u hx => by
  by_cases e : x = r
  · subst e
    rw [getKV_put_same] at hx
    cases hx
    exact ⟨hd, h0, hv⟩
  · rw [getKV_put_other _ _ e] at hx
    exact h x u hx
theorem sizeL_ok (q : PP) (f : KN → Int → KN × Int) (hf : ∀ kn x, KnOK q kn → KnOK q (f kn x).1 ∧ 0 ≤ (f kn x).2 ∧ ((f kn x).2 ≠ 0 → ∃ d, wfin q d x = true ∧ (f kn x).2 = min 9 (lenW q d x))) :
    ∀ (xs : List Int) (kn : KN) (s : Int), KnOK q kn → 0 ≤ s ∧ s ≤ 9 → KnOK q (sizeL f xs kn s).1 ∧ ∀ s', (sizeL f xs kn s).2 = some s' → 0 ≤ s' ∧ ∃ D, (∀ x ∈ xs, wfin q D x = true) ∧ s' = min 9 (s + ((xs.flatMap (wholeF q D)).length : Int))
  | [], kn, s, hk, hs => ⟨hk, fun s' h => by simp [sizeL] at h; subst h; exact ⟨hs.1, 0, by simp, by simp; omega⟩⟩
  | x :: xs, kn, s, hk, hs => by
    obtain ⟨g1, g2, g3⟩ := hf kn x hk
    unfold sizeL
    split
    · exact ⟨g1, fun s' h => by cases h⟩
    · rename_i hne
      obtain ⟨d, w1, w2⟩ := g3 hne
      obtain ⟨k1, k2⟩ := sizeL_ok q f hf xs (f kn x).1 (min (s + (f kn x).2) 9) g1 (by omega)
      refine ⟨k1, fun s' h => ?_⟩
      obtain ⟨m1, D, m2, m3⟩ := k2 s' h
      refine ⟨m1, max d D, fun y hy => ?_, ?_⟩
      · rcases List.mem_cons.1 hy with rfl | hy
        · exact (wfin_more d y w1 _ (by omega)).1
        · exact (wfin_more D y (m2 y hy) _ (by omega)).1
      · rw [List.flatMap_cons, List.length_append, (wfin_more d x w1 (max d D) (by omega)).2]
        have : xs.flatMap (wholeF q (max d D)) = xs.flatMap (wholeF q D) := by
          have h2 : ∀ l : List Int, (∀ y ∈ l, wfin q D y = true) → l.flatMap (wholeF q (max d D)) = l.flatMap (wholeF q D) := by
            intro l
            induction l with
            | nil => intro _; rfl
            | cons y l ih =>
              intro hl
              rw [List.flatMap_cons, List.flatMap_cons, ih (fun z hz => hl z (by simp [hz])), (wfin_more D y (hl y (by simp)) _ (by omega)).2]
          exact h2 xs m2
        rw [this, m3, w2]
        unfold lenW
        simp only [Int.natCast_add]
        omega
theorem sizeF_ok (q : PP) : ∀ (n : Nat) (kn : KN) (r : Int), KnOK q kn → KnOK q (sizeF q n kn r).1 ∧ 0 ≤ (sizeF q n kn r).2 ∧ ((sizeF q n kn r).2 ≠ 0 → ∃ d, wfin q d r = true ∧ (sizeF q n kn r).2 = min 9 (lenW q d r))
  | 0, kn, r, hk => ⟨hk, by simp [sizeF], fun h => by simp [sizeF] at h⟩
  | n + 1, kn, r, hk => by
    unfold sizeF
    cases hg : getKV kn r with
    | some v =>
      obtain ⟨h1, h2, h3⟩ := hk r v hg
      have hl : 0 < (q.dec r).length := List.length_pos_iff.2 h1
      have hv : max v (1 - ((q.dec r).length : Int)) = v := by omega
      simp only [hv]
      exact ⟨hk, h2, h3⟩
    | none =>
      simp only
      split
      · rename_i hd
        exact ⟨hk, by simp, fun _ => ⟨0, by simp [wfin, hd], by show (1 : Int) = min 9 _; simp [lenW, wholeF]; rfl⟩⟩
      · rename_i hd
        obtain ⟨k1, k2⟩ := sizeL_ok q (sizeF q n) (sizeF_ok q n) (q.dec r) (putKV kn r 0) 0 (hk.put hd (by omega) (fun h => absurd rfl h)) (by omega)
        generalize sizeL (sizeF q n) (q.dec r) (putKV kn r 0) 0 = o at k1 k2 ⊢
        obtain ⟨kn', s | s⟩ := o
        · exact ⟨k1, by simp [sizeE], fun h => by simp [sizeE] at h⟩
        · obtain ⟨m1, D, m2, m3⟩ := k2 s rfl
          have hw : wfin q (D + 1) r = true := by unfold wfin; rw [List.all_eq_true]; exact m2
          have hs : s = min 9 (lenW q (D + 1) r) := by
            unfold lenW
            rw [wholeF_cons hd, m3]
            omega
          exact ⟨k1.put hd m1 (fun _ => ⟨D + 1, hw, hs⟩), m1, fun _ => ⟨D + 1, hw, hs⟩⟩
theorem endsL_ok (q : PP) (ln : KN) : ∀ (rs : List Int) (kn : KN), KnOK q kn → endsL q ln rs kn = none → ∀ r ∈ rs, ∃ d, wfin q d r = true ∧ (wholeF q d r).length ≤ 8
  | [], _, _, _, r, hr => by cases hr
  | x :: rs, kn, hk, h, r, hr => by
    unfold endsL at h
    obtain ⟨k1, k2, k3⟩ := sizeF_ok q (deep q) kn x hk
    split at h
    · cases h
    · rename_i h0
      split at h
      · cases h
      · rename_i h8
        rcases List.mem_cons.1 hr with rfl | hr
        · obtain ⟨d, w1, w2⟩ := k3 h0
          refine ⟨d, w1, ?_⟩
          unfold lenW at w2
          omega
        · exact endsL_ok q ln rs _ k1 h r hr

theorem decF_nn {d : List UInt8} {v : Int} (h1 : isDec d = true) (h : decF d = some v) : 0 ≤ v := by
  cases d with
  | nil => simp [decF, Lib.atoiAll] at h
  | cons c r =>
    have hc : 48 ≤ c.toNat := by unfold isDec at h1; simp at h1; exact h1.1.1
    unfold decF Lib.atoiAll at h
    have e2 : ¬ c.toNat = 45 := by omega
    simp only [e2, if_false, false_and, not_false_iff, true_and] at h
    generalize Lib.parseMag _ = pm at h
    rcases pm with u | _ | _
    · simp only at h
      split at h
      · rename_i e
        split at e
        · cases e
        · cases e
          have := Option.some.inj h
          omega
      · cases h
    · simp at h
    · simp at h
theorem clsF_ok {ws : List ByteArray} {x : Row} (h : clsF ws = .ok x) : 0 ≤ x.2.2 ∧ x.2.2 ≤ 254 := by
  unfold clsF at h
  split at h
  · cases h
  · simp only at h
    split at h
    · cases h
    · rename_i hd
      split at h
      · rename_i v hv
        split at h
        · cases h
        · rename_i h254
          cases h
          have h1 : isDec (ws.getD 2 ByteArray.empty).data.toList = true := by
            cases e : isDec (ws.getD 2 ByteArray.empty).data.toList with
            | true => rfl
            | false => rw [e] at hd; simp at hd
          exact ⟨decF_nn h1 hv, by simp only; omega⟩
      · cases h

structure Inv (q : PP) (ln : KN) : Prop where
  cls : ∀ x ∈ q.classes, 0 ≤ x.2.2 ∧ x.2.2 ≤ 254
  keys : ∀ p ∈ q.decomps, isSyl p.1 = false ∧ isJamo p.1 = false ∧ p.2 ≠ []
  pairs : ∀ p ∈ q.pairs, isChar p.2 = true
  inln : ∀ p ∈ q.decomps, ∃ v, getKV ln p.1 = some v
theorem pairQ_mem {ps : List ((Int × Int) × Int)} {r : Int} {t : List Int} : ∀ p ∈ pairQ ps r t, p.2 = r ∨ p ∈ ps := fun p hp => by
  unfold pairQ at hp
  split at hp
  · split at hp
    · split at hp
      · rcases putKV_mem _ _ _ _ hp with rfl | h
        · exact .inl rfl
        · exact .inr h
      · exact .inr hp
    · rcases putKV_mem _ _ _ _ hp with rfl | h
      · exact .inl rfl
      · exact .inr h
  · exact .inr hp
theorem stepF_inv {q : PP} {ln : KN} {line : Int} {ws : List ByteArray} {p : PP × KN} (h : stepF q ln line ws = .ok p) (hi : Inv q ln) : Inv p.1 p.2 := by
  unfold stepF at h
  cases ws with
  | nil => cases h; exact hi
  | cons w ws =>
    simp only at h
    split at h
    · unfold clsR at h
      split at h
      · rename_i x e
        cases h
        refine ⟨fun y hy => ?_, hi.keys, hi.pairs, hi.inln⟩
        rcases List.mem_append.1 hy with hy | hy
        · exact hi.cls y hy
        · simp at hy; subst hy; exact clsF_ok e
      · cases h
    · split at h
      · unfold kndR at h
        split at h
        · cases h; exact ⟨hi.cls, hi.keys, hi.pairs, hi.inln⟩
        · cases h
      · split at h
        · unfold foldF at h
          split at h
          · cases h
          · cases h
          · split at h
            · cases h
            · cases h; exact ⟨hi.cls, hi.keys, hi.pairs, hi.inln⟩
        · split at h
          · unfold dcpF at h
            split at h
            · cases h
            · cases h
            · rename_i r t e
              obtain ⟨l1, l2, l3⟩ := someF_ok e
              split at h
              · cases h
              · split at h
                · cases h
                · rename_i hsj
                  cases h
                  have hsj' : isSyl r = false ∧ isJamo r = false := by simpa using hsj
                  refine ⟨hi.cls, fun x hx => ?_, fun x hx => ?_, fun x hx => ?_⟩
                  · unfold decQ at hx
                    rcases putKV_mem _ _ _ _ hx with rfl | hx
                    · exact ⟨hsj'.1, hsj'.2, fun e => by simp at l1; simp only at e; rw [e] at l1; simp at l1⟩
                    · exact hi.keys x hx
                  · unfold decQ at hx
                    rcases pairQ_mem x hx with e | hx
                    · rw [e]; exact l3 r (by simp)
                    · exact hi.pairs x hx
                  · unfold decQ at hx
                    by_cases er : x.1 = r
                    · rw [er]; exact ⟨_, getKV_put_same _ _ _⟩
                    · rw [getKV_put_other _ _ er]
                      rcases putKV_mem _ _ _ _ hx with rfl | hx
                      · exact absurd rfl er
                      · exact hi.inln x hx
          · cases h
theorem linesF_inv : ∀ (xs : List ByteArray) (line : Int) (q : PP) (ln : KN) (p : PP × KN), linesF xs line q ln = .ok p → Inv q ln → Inv p.1 p.2
  | [], line, q, ln, p, h, hi => by cases h; exact hi
  | x :: xs, line, q, ln, p, h, hi => by
    unfold linesF at h
    split at h
    · cases h
    · rename_i p' e
      exact linesF_inv xs (line + 1) p'.1 p'.2 p h (stepF_inv e hi)

theorem cls_small {q : PP} (h : ∀ x ∈ q.classes, 0 ≤ x.2.2 ∧ x.2.2 ≤ 254) : Cls8 q := fun r => by
  unfold PP.cls
  split
  · omega
  · unfold saidF
    cases e : q.classes.reverse.find? (rowHas r) with
    | none => simp
    | some x =>
      have := h x (by simpa using List.mem_of_find?_eq_some e)
      simpa using this
theorem fin_keys {q : PP} (hk : ∀ p ∈ q.decomps, isSyl p.1 = false ∧ isJamo p.1 = false ∧ p.2 ≠ []) {D : Nat} (h : ∀ p ∈ q.decomps, wfin q D p.1 = true ∧ (wholeF q D p.1).length ≤ 8) : ∀ r, wfin q (D + 1) r = true ∧ (wholeF q (D + 1) r).length ≤ 8 := fun r => by
  have hnil : ∀ x, isSyl x = false → getKV q.decomps x = none → q.dec x = [] := fun x h1 h2 => by unfold PP.dec; rw [h1, h2]; rfl
  cases hs : isSyl r with
  | false =>
    cases hg : getKV q.decomps r with
    | none =>
      have hd := hnil r hs hg
      rw [wholeF_nil hd]
      exact ⟨by unfold wfin; rw [hd]; rfl, by simp⟩
    | some l =>
      obtain ⟨h1, h2⟩ := h _ (getKV_mem hg)
      obtain ⟨h3, h4⟩ := wfin_more D r h1 (D + 1) (by omega)
      exact ⟨h3, by rw [h4]; exact h2⟩
  | true =>
    have hdj : ∀ x ∈ q.dec r, q.dec x = [] := fun x hx => by
      unfold PP.dec at hx
      rw [hs] at hx
      obtain ⟨r1, r2⟩ := sylD_nt hs
      have hxs := (sylD_jamo hs x hx).1
      refine hnil x hxs ?_
      cases hg : getKV q.decomps x with
      | none => rfl
      | some l =>
        have hj := (hk _ (getKV_mem hg)).2.1
        have : isJamo x = true := by
          simp only [if_true] at hx
          unfold sylD at hx
          unfold isJamo
          split at hx <;> simp at hx <;> simp <;> omega
        rw [this] at hj; cases hj
    have hd : q.dec r ≠ [] := by
      unfold PP.dec
      rw [hs]
      simp only [if_true]
      unfold sylD
      split <;> simp
    have hw : ∀ x ∈ q.dec r, wfin q D x = true := fun x hx => by
      cases D with
      | zero => unfold wfin; rw [hdj x hx]; rfl
      | succ D => unfold wfin; rw [hdj x hx]; rfl
    refine ⟨by unfold wfin; rw [List.all_eq_true]; exact hw, ?_⟩
    rw [wholeF_cons hd]
    have h1 : ∀ l : List Int, (∀ x ∈ l, q.dec x = []) → (l.flatMap (wholeF q D)).length = l.length := by
      intro l
      induction l with
      | nil => intro _; rfl
      | cons x l ih =>
        intro hl
        rw [List.flatMap_cons, List.length_append, ih (fun y hy => hl y (by simp [hy])), wholeF_nil (hl x (by simp))]
        simp; omega
    rw [h1 _ hdj]
    unfold PP.dec
    rw [hs]
    simp only [if_true]
    unfold sylD
    split <;> simp

theorem keys_depth {q : PP} : ∀ l : List (Int × List Int), (∀ p ∈ l, ∃ d, wfin q d p.1 = true ∧ (wholeF q d p.1).length ≤ 8) → ∃ D, ∀ p ∈ l, wfin q D p.1 = true ∧ (wholeF q D p.1).length ≤ 8
  | [], _ => ⟨0, fun p hp => by cases hp⟩
  | p :: l, h => by
    obtain ⟨D, hD⟩ := keys_depth l fun x hx => h x (by simp [hx])
    obtain ⟨d, h1, h2⟩ := h p (by simp)
    refine ⟨max d D, fun x hx => ?_⟩
    rcases List.mem_cons.1 hx with rfl | hx
    · obtain ⟨a, b⟩ := wfin_more d _ h1 (max d D) (by omega)
      exact ⟨a, by rw [b]; exact h2⟩
    · obtain ⟨a, b⟩ := wfin_more D _ (hD x hx).1 (max d D) (by omega)
      exact ⟨a, by rw [b]; exact (hD x hx).2⟩

/-- What the reader takes is fine. -/
theorem parse_fine {s : ByteArray} {q : PP} (h : parseF s = .ok q) : ∃ D, Fine q D ∧ ∀ r, (wholeF q D r).length ≤ 8 := by
  unfold parseF at h
  split at h
  · cases h
  · split at h
    · cases h
    · rename_i p e
      split at h
      · cases h
      · rename_i he
        cases h
        obtain ⟨q, ln⟩ := p
        obtain ⟨p32, p8, _, _⟩ := linesF_ok e
        have hi := linesF_inv _ _ _ _ _ e ⟨by simp [PP.none_], by simp [PP.none_], by simp [PP.none_], by simp [PP.none_]⟩
        have hends := endsL_ok q ln _ [] (fun r v hr => by simp [getKV] at hr) he
        obtain ⟨D, hD⟩ := keys_depth q.decomps fun p hp => by
          obtain ⟨v, hv⟩ := hi.inln p hp
          exact hends p.1 (by rw [List.mem_mergeSort]; exact List.mem_map.2 ⟨_, getKV_mem hv, rfl⟩)
        have hf := fin_keys hi.keys hD
        exact ⟨D + 1, ⟨p32, p8, cls_small hi.cls, fun r => (hf r).1, fun x hx => isChar_i32 (hi.pairs x hx)⟩, fun r => (hf r).2⟩

end Go.Proofs.YtgidpknckbgmbaaGreatDoor
