/- A map from int to int by what it answers: its laws for look-up, store and delete. -/
import Derived.Test.YtenommboacjopaaLaws
namespace Go.Proofs.Ytenommboacjopaa
open Go.RowKit

def ent (t : Int × Int × Nat) : MapEntry := { key := .int .i64 t.1, val := .int .i64 t.2.1, born := t.2.2 }
def look (L : List (Int × Int × Nat)) (x : Int) : Option Int := (L.find? (fun t => x == t.1)).map (·.2.1)
/-- Block b is a map that answers f. -/
def IMap (w : World) (b : Nat) (f : Int → Option Int) : Prop :=
  ∃ (L : List (Int × Int × Nat)) (clock : Nat), w.heap[b]? = some (.map (L.map ent).toArray clock) ∧ (L.map (·.1)).Nodup ∧ ∀ x, look L x = f x

section
variable {w w' : World} {b : Nat} {f : Int → Option Int}
theorem IMap.lt (h : IMap w b f) : b < w.heap.size := by
  obtain ⟨L, c, hb, _⟩ := h
  exact (Array.getElem?_eq_some_iff.1 hb).1
theorem IMap.keep (h : IMap w b f) (hk : w'.heap[b]? = w.heap[b]?) : IMap w' b f := by
  obtain ⟨L, c, hb, r⟩ := h
  exact ⟨L, c, hk.trans hb, r⟩
theorem IMap.congr {g : Int → Option Int} (h : IMap w b f) (e : ∀ x, f x = g x) : IMap w b g := by
  obtain ⟨L, c, hb, hn, hl⟩ := h
  exact ⟨L, c, hb, hn, fun x => (hl x).trans (e x)⟩
theorem IMap.made (w : World) : IMap (w.alloc (.map #[] 0)) w.heap.size (fun _ => none) :=
  ⟨[], 0, by simpa using (MapKept.heap_alloc w (.map #[] 0)).1, by simp, fun _ => rfl⟩
theorem IMap.not_blk {t : TypeId} {cs : Array Value} (h : IMap w b f) {g : Nat} (hg : Blk w g t cs) : g ≠ b := by
  rintro rfl
  obtain ⟨L, c, hb, _⟩ := h
  unfold Blk at hg
  rw [hg] at hb
  cases hb
end

theorem findNow_ent (x : Int) : ∀ (L : List (Int × Int × Nat)) (i : Nat),
    Instr.findNow (.int .i64) (.int .i64 x) (L.map ent) i = some ((L.find? (fun t => x == t.1)).map fun t => (i + L.findIdx (fun t => x == t.1), .int .i64 t.2.1))
  | [], i => rfl
  | t :: L, i => by
    have ih := findNow_ent x L (i + 1)
    simp only [List.map_cons, Instr.findNow, ent, Instr.sameNow, if_true]
    by_cases h : x = t.1
    · simp [h, List.findIdx_cons]
    · have hb : (x == t.1) = false := by simpa using h
      rw [hb]
      simp only [List.find?_cons, hb, List.findIdx_cons, cond_false]
      rw [ih]
      congr 1
      cases List.find? (fun t => x == t.1) L with
      | none => rfl
      | some t' => simp; omega

theorem run_findKey_ent {P : Program} (w : World) {kt : TypeId} (hk : P.underlying kt = some (.int .i64)) (x : Int) (L : List (Int × Int × Nat)) :
    (Instr.findKey kt (.int .i64 x) (L.map ent)).run P w = .ok ((L.find? (fun t => x == t.1)).map fun t => (L.findIdx (fun t => x == t.1), .int .i64 t.2.1)) w := by
  have h := findNow_ent x L 0
  simp only [Nat.zero_add] at h
  exact MapKept.run_findKey hk h
theorem run_checkKey_int {P : Program} (w : World) {kt : TypeId} (hk : P.underlying kt = some (.int .i64)) (x : Int) (e : Bool) (n : Nat) : (Instr.checkKey e (n + 1) kt (.int .i64 x)).run P w = .ok () w := by
  simp [Instr.checkKey, run_underlying hk]

theorem run_ilookup {P : Program} {w : World} {b : Nat} {f : Int → Option Int} (h : IMap w b f) {t kt et : TypeId} (ht : P.underlying t = some (.map kt et)) (hk : P.underlying kt = some (.int .i64)) (hz : (zeroValue et).run P w = .ok (.int .i64 0) w) (x : Int) :
    (Instr.lookup t (.map (some b)) (.int .i64 x) true).run P w = .ok (.tuple #[.int .i64 ((f x).getD 0), .bool (f x).isSome]) w := by
  obtain ⟨L, c, hb, _, hl⟩ := h
  have hf := run_findKey_ent w hk x L
  have hc := run_checkKey_int w hk x
  rw [← hl x]
  unfold look
  cases hx : L.find? (fun t => x == t.1) with
  | none => rw [hx] at hf; simp [Instr.lookup, run_underlying ht, Sem.run, getObj, hb, hc, hf, hz]
  | some t' => rw [hx] at hf; simp [Instr.lookup, run_underlying ht, Sem.run, getObj, hb, hc, hf]

/-- f with v at x. -/
def setAt (f : Int → Option Int) (x : Int) (v : Option Int) : Int → Option Int := fun y => if y = x then v else f y

theorem look_cons (t : Int × Int × Nat) (L : List (Int × Int × Nat)) (y : Int) : look (t :: L) y = if y = t.1 then some t.2.1 else look L y := by
  unfold look
  by_cases h : y = t.1
  · simp [h]
  · have hb : (y == t.1) = false := by simpa using h
    simp [hb, h]
theorem look_modify (x v : Int) : ∀ (L : List (Int × Int × Nat)), (L.find? (fun t => x == t.1)).isSome →
    (L.modify (L.findIdx (fun t => x == t.1)) (fun t => (x, v, t.2.2))).map (·.1) = L.map (·.1) ∧ ∀ y, look (L.modify (L.findIdx (fun t => x == t.1)) (fun t => (x, v, t.2.2))) y = setAt (look L) x (some v) y
  | [], h => by simp at h
  | t :: L, h => by
    by_cases hx : x = t.1
    · have hb : (x == t.1) = true := by simpa using hx
      simp only [List.findIdx_cons, hb, cond_true, List.modify_zero_cons]
      refine ⟨by simp [hx], fun y => ?_⟩
      rw [look_cons]
      unfold setAt
      rw [look_cons]
      by_cases hy : y = x
      · simp [hy]
      · rw [if_neg hy, if_neg hy, if_neg (by rw [← hx]; exact hy)]
    · have hb : (x == t.1) = false := by simpa using hx
      simp only [List.find?_cons, hb] at h
      obtain ⟨h1, h2⟩ := look_modify x v L h
      simp only [List.findIdx_cons, hb, cond_false, List.modify_succ_cons]
      refine ⟨by simp [h1], fun y => ?_⟩
      rw [look_cons, h2]
      unfold setAt
      rw [look_cons]
      by_cases hy : y = x
      · rw [if_pos hy, if_pos hy, if_neg (by rw [hy]; exact hx)]
      · rw [if_neg hy, if_neg hy]
theorem look_none (x : Int) : ∀ (L : List (Int × Int × Nat)), L.find? (fun t => x == t.1) = none → x ∉ L.map (·.1)
  | [], _ => by simp
  | t :: L, h => by
    by_cases hx : x = t.1
    · simp [hx] at h
    · have hb : (x == t.1) = false := by simpa using hx
      simp only [List.find?_cons, hb] at h
      have := look_none x L h
      simp only [List.map_cons, List.mem_cons, not_or]
      exact ⟨hx, this⟩
theorem look_append (x v : Int) (c : Nat) : ∀ (L : List (Int × Int × Nat)), x ∉ L.map (·.1) → ∀ y, look (L ++ [(x, v, c)]) y = setAt (look L) x (some v) y
  | [], _, y => by rw [List.nil_append, look_cons]; rfl
  | t :: L, h, y => by
    simp only [List.map_cons, List.mem_cons, not_or] at h
    rw [List.cons_append, look_cons, look_append x v c L h.2 y]
    unfold setAt
    rw [look_cons]
    by_cases hy : y = x
    · rw [if_pos hy, if_pos hy, if_neg (by rw [hy]; exact h.1)]
    · rw [if_neg hy, if_neg hy]
theorem look_erase (x : Int) : ∀ (L : List (Int × Int × Nat)), (L.map (·.1)).Nodup → (L.find? (fun t => x == t.1)).isSome →
    List.Sublist ((L.eraseIdx (L.findIdx (fun t => x == t.1))).map (·.1)) (L.map (·.1)) ∧ ∀ y, look (L.eraseIdx (L.findIdx (fun t => x == t.1))) y = setAt (look L) x none y
  | [], _, h => by simp at h
  | t :: L, hn, h => by
    simp only [List.map_cons, List.nodup_cons] at hn
    by_cases hx : x = t.1
    · have hb : (x == t.1) = true := by simpa using hx
      simp only [List.findIdx_cons, hb, cond_true, List.eraseIdx_zero, List.tail_cons]
      refine ⟨by simp, fun y => ?_⟩
      unfold setAt
      by_cases hy : y = x
      · rw [if_pos hy, hy]
        have hnn : x ∉ L.map (·.1) := by rw [hx]; exact hn.1
        unfold look
        rw [List.find?_eq_none.2 (fun t' ht' => by simp; intro e; exact hnn (List.mem_map.2 ⟨t', ht', e.symm⟩))]
        rfl
      · rw [if_neg hy, look_cons, if_neg (by rw [← hx]; exact hy)]
    · have hb : (x == t.1) = false := by simpa using hx
      simp only [List.find?_cons, hb] at h
      obtain ⟨h1, h2⟩ := look_erase x L hn.2 h
      simp only [List.findIdx_cons, hb, cond_false, List.eraseIdx_cons_succ]
      refine ⟨by simpa using h1.cons_cons t.1, fun y => ?_⟩
      rw [look_cons, h2]
      unfold setAt
      rw [look_cons]
      by_cases hy : y = x
      · rw [if_pos hy, if_pos hy, if_neg (by rw [hy]; exact hx)]
      · rw [if_neg hy, if_neg hy]

theorem erase_map {α β : Type} (f : α → β) : ∀ (l : List α) (i : Nat), (l.map f).eraseIdx i = (l.eraseIdx i).map f
  | [], _ => by simp
  | _ :: _, 0 => rfl
  | a :: l, i + 1 => by simp [erase_map f l i]
theorem only_set (w : World) (b : Nat) (o : Obj) : Only (fun k => k = b) w { w with heap := w.heap.setIfInBounds b o } :=
  ⟨rfl, rfl, rfl, by simp, fun k _ hk => by simp [Ne.symm hk]⟩

theorem run_iupdate {P : Program} {w : World} {b : Nat} {f : Int → Option Int} (h : IMap w b f) {t kt et : TypeId} (ht : P.underlying t = some (.map kt et)) (hk : P.underlying kt = some (.int .i64)) (x v : Int) :
    ∃ w', (Instr.mapUpdate t (.map (some b)) (.int .i64 x) (.int .i64 v)).run P w = .ok () w' ∧ IMap w' b (setAt f x (some v)) ∧ Only (fun k => k = b) w w' := by
  have hlt := h.lt
  obtain ⟨L, c, hb, hn, hl⟩ := h
  have hf := run_findKey_ent w hk x L
  have hc := run_checkKey_int w hk x false 9999
  cases hx : L.find? (fun t => x == t.1) with
  | none =>
    rw [hx] at hf
    refine ⟨{ w with heap := w.heap.setIfInBounds b (.map ((L.map ent).toArray.push { key := .int .i64 x, val := .int .i64 v, born := c }) (c + 1)) }, ?_, ?_, only_set w b _⟩
    · simp [Instr.mapUpdate, run_underlying ht, Sem.run, getObj, setObj, hb, hc, hf]
    · have hnot := look_none x L hx
      refine ⟨L ++ [(x, v, c)], c + 1, ?_, ?_, fun y => ?_⟩
      · simp [hlt, ent]
      · rw [List.map_append, List.nodup_append]
        exact ⟨hn, by simp, by simpa using fun a b c hm e => hnot (List.mem_map.2 ⟨(a, b, c), hm, e⟩)⟩
      · rw [look_append x v c L hnot y]; unfold setAt; rw [hl]
  | some t' =>
    rw [hx] at hf
    obtain ⟨h1, h2⟩ := look_modify x v L (by rw [hx]; rfl)
    refine ⟨{ w with heap := w.heap.setIfInBounds b (.map ((L.map ent).toArray.modify (L.findIdx (fun t => x == t.1)) fun e => { e with key := .int .i64 x, val := .int .i64 v }) c) }, ?_, ?_, only_set w b _⟩
    · have hkey : Option.map ((fun e : MapEntry => e.key) ∘ ent) L[L.findIdx (fun t => x == t.1)]? = some (.int .i64 x) := by
        have hlt2 : L.findIdx (fun t => x == t.1) < L.length := List.findIdx_lt_length_of_exists ⟨t', List.mem_of_find?_eq_some hx, List.find?_some (p := fun (t : Int × Int × Nat) => x == t.1) hx⟩
        have he := List.findIdx_getElem (p := fun (t : Int × Int × Nat) => x == t.1) (w := hlt2)
        rw [List.getElem?_eq_getElem hlt2]
        simp only [Option.map_some, Function.comp_apply, ent, Option.some.injEq, Value.int.injEq, true_and]
        have he' := (beq_iff_eq.1 he).symm
        exact he'
      simp [Instr.mapUpdate, run_underlying ht, Sem.run, getObj, setObj, hb, hc, hf, Instr.keyThatStays]
      rw [hkey]
      intro h
      simp [Instr.sameBits] at h
    · refine ⟨L.modify (L.findIdx (fun t => x == t.1)) (fun t => (x, v, t.2.2)), c, ?_, by rw [h1]; exact hn, fun y => by rw [h2]; unfold setAt; rw [hl]⟩
      simp only [Array.getElem?_setIfInBounds_self, hlt, if_true, List.modify_toArray]
      congr 3
      apply List.ext_getElem?
      intro i
      simp only [List.getElem?_modify, List.getElem?_map]
      by_cases hi : L.findIdx (fun t => x == t.1) = i <;> simp [hi, ent, Function.comp_def]

theorem run_idelete {P : Program} {w : World} {b : Nat} {f : Int → Option Int} (h : IMap w b f) {t kt et ty kty : TypeId} (ht : P.underlying t = some (.map kt et)) (hk : P.underlying kt = some (.int .i64)) (x : Int) :
    ∃ w', (Builtin.delete_ #[t, kty] ty #[.map (some b), .int .i64 x]).run P w = .ok (.tuple #[]) w' ∧ IMap w' b (setAt f x none) ∧ Only (fun k => k = b) w w' := by
  have hlt := h.lt
  obtain ⟨L, c, hb, hn, hl⟩ := h
  have hf := run_findKey_ent w hk x L
  have hc := run_checkKey_int w hk x
  cases hx : L.find? (fun t => x == t.1) with
  | none =>
    rw [hx] at hf
    refine ⟨{ w with heap := w.heap.setIfInBounds b (.map (L.map ent).toArray c) }, ?_, ?_, only_set w b _⟩
    · simp [Builtin.delete_, run_underlying ht, Sem.run, getObj, setObj, hb, hc, hf]
    · refine ⟨L, c, by simp [hlt], hn, fun y => ?_⟩
      unfold setAt
      by_cases hy : y = x
      · rw [if_pos hy, hy]; unfold look; rw [hx]; rfl
      · rw [if_neg hy, hl]
  | some t' =>
    rw [hx] at hf
    obtain ⟨h1, h2⟩ := look_erase x L hn (by rw [hx]; rfl)
    refine ⟨{ w with heap := w.heap.setIfInBounds b (.map ((L.map ent).toArray.eraseIdxIfInBounds (L.findIdx (fun t => x == t.1))) c) }, ?_, ?_, only_set w b _⟩
    · simp [Builtin.delete_, run_underlying ht, Sem.run, getObj, setObj, hb, hc, hf]
    · refine ⟨L.eraseIdx (L.findIdx (fun t => x == t.1)), c, ?_, h1.nodup hn, fun y => by rw [h2]; unfold setAt; rw [hl]⟩
      simp only [Array.getElem?_setIfInBounds_self, hlt, if_true, List.eraseIdxIfInBounds_toArray]
      rw [erase_map]

/-! The laws at the operation. -/
theorem wpList_ilookup {P : Program} {w : World} {ops : Array Oper} {rest : List Oper} {o : Oper} {a : Act} {Q : Exit → Act → World → Prop} (hg : o.guard = none) (m x : Operand) (t : TypeId) (hop : o.op = Op.lookup t m x true)
    {kt et : TypeId} (ht : P.underlying t = some (.map kt et)) (hk : P.underlying kt = some (.int .i64)) (hz : (zeroValue et).run P w = .ok (.int .i64 0) w)
    (b : Nat) (f : Int → Option Int) (k : Int) (hm : a.eval m = .map (some b)) (hx : a.eval x = .int .i64 k) (h : IMap w b f)
    (hK : wpList P ops Q rest (a.put o.dst (.tuple #[.int .i64 ((f k).getD 0), .bool (f k).isSome])) w) : wpList P ops Q (o :: rest) a w := by
  refine wpList_plain hg fun K hK' => ?_
  have hrun := run_ilookup h ht hk hz k
  unfold Oper.wp
  simp [execOp, hop, hm, hx, hrun, Result.andThen]
  exact hK' _ _ hK
theorem wpList_iupdate {P : Program} {w : World} {ops : Array Oper} {rest : List Oper} {o : Oper} {a : Act} {Q : Exit → Act → World → Prop} (hg : o.guard = none) (m x v : Operand) (t : TypeId) (hop : o.op = Op.mapUpdate t m x v)
    {kt et : TypeId} (ht : P.underlying t = some (.map kt et)) (hk : P.underlying kt = some (.int .i64))
    (b : Nat) (f : Int → Option Int) (k n : Int) (hm : a.eval m = .map (some b)) (hx : a.eval x = .int .i64 k) (hv : a.eval v = .int .i64 n) (h : IMap w b f)
    (hK : ∀ w', IMap w' b (setAt f k (some n)) → Only (fun j => j = b) w w' → wpList P ops Q rest (a.put o.dst undef) w') : wpList P ops Q (o :: rest) a w := by
  refine wpList_plain hg fun K hK' => ?_
  obtain ⟨w', hrun, h1, h2⟩ := run_iupdate h ht hk k n
  unfold Oper.wp
  simp [execOp, hop, hm, hx, hv, hrun, Result.andThen]
  exact hK' _ _ (hK w' h1 h2)
theorem wpList_idelete {P : Program} {w : World} {ops : Array Oper} {rest : List Oper} {o : Oper} {a : Act} {Q : Exit → Act → World → Prop} (hg : o.guard = none) (m x : Operand) (t kty : TypeId)
    (hop : o.op = .call { callee := .builtin .delete, args := #[m, x], argTypes := #[t, kty] })
    {kt et : TypeId} (ht : P.underlying t = some (.map kt et)) (hk : P.underlying kt = some (.int .i64))
    (b : Nat) (f : Int → Option Int) (k : Int) (hm : a.eval m = .map (some b)) (hx : a.eval x = .int .i64 k) (h : IMap w b f)
    (hK : ∀ w', IMap w' b (setAt f k none) → Only (fun j => j = b) w w' → wpList P ops Q rest (a.put o.dst (.tuple #[])) w') : wpList P ops Q (o :: rest) a w := by
  refine wpList_plain hg fun K hK' => ?_
  obtain ⟨w', hrun, h1, h2⟩ := run_idelete (ty := o.type) (kty := kty) h ht hk k
  unfold Oper.wp
  simp [execOp, hop, resolve, invoke, builtin, hm, hx, hrun, Result.andThen]
  exact hK' _ _ (hK w' h1 h2)
end Go.Proofs.Ytenommboacjopaa
