/- A slice of bytes that lies in the midst of a block of one's own: what is cut off at its head, what is appended. No program. -/
import Derived.Test.YtenommboacjopaaRef3
import Derived.Deep.AppendSrc
import Derived.Deep.Upon
namespace Go.Proofs.Ytenommboacjopaa
open Go.RowKit

/-- Cells laid over an array from place o on. -/
def layC : Array Value → Nat → List Value → Array Value
  | cs, _, [] => cs
  | cs, o, v :: r => layC (cs.setIfInBounds o v) (o + 1) r
theorem layC_size : ∀ (vs : List Value) (o : Nat) (cs : Array Value), (layC cs o vs).size = cs.size
  | [], _, _ => rfl
  | v :: r, o, cs => by rw [layC, layC_size r]; simp
theorem layC_out {i : Nat} : ∀ (vs : List Value) (o : Nat) (cs : Array Value), (i < o ∨ o + vs.length ≤ i) → (layC cs o vs)[i]? = cs[i]?
  | [], _, _, _ => rfl
  | v :: r, o, cs, h => by
    rw [layC, layC_out r (o + 1) _ (by simp at h; omega)]
    simp only [List.length_cons] at h
    rw [Array.getElem?_setIfInBounds_ne (by omega)]
theorem layC_in : ∀ (vs : List Value) (o : Nat) (cs : Array Value), o + vs.length ≤ cs.size → ∀ (j : Nat) (u : Value), vs[j]? = some u → (layC cs o vs)[o + j]? = some u
  | [], _, _, _, j, u, hu => by simp at hu
  | v :: r, o, cs, h, j, u, hu => by
    simp only [List.length_cons] at h
    rw [layC]
    cases j with
    | zero =>
      simp at hu
      subst hu
      rw [Nat.add_zero, layC_out r (o + 1) _ (by omega)]
      show (cs.setIfInBounds o v)[o]? = some v
      rw [Array.getElem?_setIfInBounds_self_of_lt (show o < cs.size by omega)]
    | succ j =>
      have h2 := layC_in r (o + 1) (cs.setIfInBounds o v) (by simp; omega) j u (by simpa using hu)
      rw [← h2]
      congr 1
      omega
theorem Blk.setCells_ {g : Nat} {t : TypeId} : ∀ (vs : List Value) (o : Nat) (w : World) (cs : Array Value), Blk w g t cs → Blk (w.setCells g o vs) g t (layC cs o vs)
  | [], _, _, _, h => h
  | v :: r, o, _, _, h => Blk.setCells_ r (o + 1) _ _ (h.set_ o v)
theorem Only.setCells {F : Nat → Prop} {w : World} {g : Nat} (hg : g < w.heap.size → F g) : ∀ (vs : List Value) (o : Nat) (w1 : World), Only F w w1 → Only F w (w1.setCells g o vs)
  | [], _, _, h => h
  | v :: r, o, _, h => Only.setCells hg r (o + 1) _ (h.setCell (p := ⟨g, o, none⟩) hg v)

/-- The block where a slice lies. -/
def blkOf : Value → Option Nat
  | .slice (some a) _ _ => some a.block
  | _ => none

/-- The slice v reads as xs and lies in a block of bytes of one's own (or is nil). -/
def MidB (w : World) (B : Nat) (v : Value) (xs : List UInt8) : Prop :=
  (v = .slice none 0 0 ∧ xs = []) ∨ ∃ g off cap cs, v = .slice (some ⟨g, off, none⟩) xs.length cap ∧ B ≤ g ∧ Blk w g 5 cs ∧ off + cap ≤ cs.size ∧ xs.length ≤ cap ∧ cap ≤ maxLen ∧ ∀ (j : Nat) b, xs[j]? = some b → cs[off + j]? = some (bv b)

section
variable {w w' : World} {B : Nat} {v : Value} {xs : List UInt8}
theorem MidB.form (h : MidB w B v xs) : ∃ A c, v = .slice A xs.length c := by
  rcases h with ⟨rfl, rfl⟩ | ⟨g, off, cap, cs, rfl, _⟩
  · exact ⟨none, 0, rfl⟩
  · exact ⟨_, _, rfl⟩
theorem MidB.nil (w : World) (B : Nat) : MidB w B (.slice none 0 0) [] := .inl ⟨rfl, rfl⟩
theorem MidB.lt (h : MidB w B v xs) : ∀ g, blkOf v = some g → B ≤ g ∧ g < w.heap.size := by
  rcases h with ⟨rfl, rfl⟩ | ⟨g, off, cap, cs, rfl, hB, hb, _⟩
  · intro g hg; cases hg
  · intro g' hg
    simp only [blkOf, Option.some.injEq] at hg
    subst hg
    exact ⟨hB, hb.lt⟩
theorem MidB.blk (h : MidB w B v xs) : ∀ g, blkOf v = some g → ∃ cs, Blk w g 5 cs := by
  rcases h with ⟨rfl, rfl⟩ | ⟨g, off, cap, cs, rfl, hB, hb, _⟩
  · intro g hg; cases hg
  · intro g' hg
    simp only [blkOf, Option.some.injEq] at hg
    subst hg
    exact ⟨cs, hb⟩
theorem MidB.rd {A : Option Addr} {n c : Nat} (h : MidB w B (.slice A n c) xs) : RdB w A n xs := by
  rcases h with ⟨h1, rfl⟩ | ⟨g, off, cap, cs, h1, hB, hb, hs, hn, _, hx⟩
  · injection h1 with h1 h2 h3
    subst h1; subst h2
    exact Rd.nil _ _
  · injection h1 with h1 h2 h3
    subst h1; subst h2
    refine ⟨by simp, fun _ => ⟨_, rfl, hb.lt, fun j u hu => ?_⟩⟩
    rw [add_lit, hb.cell]
    rw [List.getElem?_map] at hu
    cases hj : xs[j]? with
    | none => rw [hj] at hu; cases hu
    | some b =>
      rw [hj] at hu
      simp only [Option.map_some, Option.some.injEq] at hu
      rw [hx j b hj, hu]
theorem MidB.keep (h : MidB w B v xs) (hk : ∀ g, blkOf v = some g → w'.heap[g]? = w.heap[g]?) : MidB w' B v xs := by
  rcases h with h0 | ⟨g, off, cap, cs, rfl, hB, hb, r⟩
  · exact .inl h0
  · exact .inr ⟨g, off, cap, cs, rfl, hB, (hk g rfl).trans hb, r⟩
theorem MidB.only {F : Nat → Prop} (h : MidB w B v xs) (ho : Only F w w') (hF : ∀ g, blkOf v = some g → ¬ F g) : MidB w' B v xs :=
  h.keep fun g hg => ho.block g (h.lt g hg).2 (hF g hg)
theorem MidB.below (h : MidB w B v xs) (hb : Below w.heap.size w w') : MidB w' B v xs := h.keep fun g hg => hb.block g (h.lt g hg).2
theorem MidB.cut {g off n cap k : Nat} (h : MidB w B (.slice (some ⟨g, off, none⟩) n cap) xs) (hk : k ≤ n) : MidB w B (.slice (some (if cap = k then ⟨g, off, none⟩ else ⟨g, off + k, none⟩)) (n - k) (cap - k)) (xs.drop k) := by
  rcases h with ⟨h1, _⟩ | ⟨g', off', cap', cs, h1, hB, hb, hs, hn, hm, hx⟩
  · injection h1 with h1; cases h1
  · injection h1 with h1 h2 h3
    injection h1 with h1
    injection h1 with h1 h4
    subst h1; subst h2; subst h3; subst h4
    refine .inr ⟨g, if cap = k then off else off + k, cap - k, cs, ?_, hB, hb, by split <;> omega, by rw [List.length_drop]; omega, by omega, fun j b hj => ?_⟩
    · rw [List.length_drop]
      split <;> rfl
    · rw [List.getElem?_drop] at hj
      have hlt := (List.getElem?_eq_some_iff.1 hj).1
      rw [if_neg (by omega), Nat.add_assoc]
      exact hx _ b hj

theorem bv_get {ys : List UInt8} {j : Nat} {b : UInt8} (h : ys[j]? = some b) : (ys.map bv)[j]? = some (bv b) := by rw [List.getElem?_map, h]; rfl

set_option maxRecDepth 100000 in
/-- append: what runs. -/
theorem run_append_mid (w : World) (ty : TypeId) {B : Nat} {v : Value} {xs : List UInt8} (h : MidB w B v xs) (A : Option Addr) (m c : Nat) (ys : List UInt8) (hr : RdB w A m ys) (hlim : xs.length + m ≤ 100000000000) (hB : B ≤ w.heap.size) :
    ∃ A' c' w', (Builtin.append_ #[36, 36] ty #[v, .slice A m c]).run Try.prog w = .ok (.slice A' (xs.length + m) c') w' ∧ MidB w' B (.slice A' (xs.length + m) c') (xs ++ ys) ∧ Only (fun k => blkOf v = some k) w w' ∧ (blkOf (.slice A' (xs.length + m) c') = blkOf v ∨ blkOf (.slice A' (xs.length + m) c') = some w.heap.size) := by
  obtain ⟨i0, hi, hz0, hz1, hz2⟩ := info_parts infoU8
  have hyl := hr.blen
  have hsrc : Src Try.prog i0.size 36 (.slice A m c) m (ys.map bv) w := by
    rw [hz1]
    rcases Nat.eq_zero_or_pos m with h0 | h0
    · subst h0
      obtain rfl : ys = [] := List.eq_nil_of_length_eq_zero hyl
      cases A with
      | none => exact Src.ofNil w Try.underlying36 c
      | some a => exact Src.ofSlice w Try.underlying36 a 0 c [] rfl (fun j u hu => by simp at hu) (fun u hu => by cases hu)
    · obtain ⟨ad, rfl, _, hc⟩ := hr.2 h0
      exact Src.ofSlice w Try.underlying36 ad m c _ (by simp; exact hyl) hc (map_bv_one _)
  have grow : ∀ (base : Option Addr) (cap : Nat) (olds : List Value), olds = xs.map bv → (Builtin.firstCells i0.size xs.length (.slice base xs.length cap)).run Try.prog w.drew = .ok olds.toArray w.drew → cap < xs.length + m → cap ≤ maxLen →
      ∃ A' c' w', (Builtin.append_ #[36, 36] ty #[.slice base xs.length cap, .slice A m c]).run Try.prog w = .ok (.slice A' (xs.length + m) c') w' ∧ MidB w' B (.slice A' (xs.length + m) c') (xs ++ ys) ∧ Only (fun k => blkOf (.slice base xs.length cap) = some k) w w' ∧ (blkOf (.slice A' (xs.length + m) c') = blkOf (.slice base xs.length cap) ∨ blkOf (.slice A' (xs.length + m) c') = some w.heap.size) := by
    intro base cap olds hol hold hlt hcm
    have hrun := run_append_grow_src (P := Try.prog) w 36 36 ty 5 i0 (.int .u8 0) Try.underlying36 hi hz0 base xs.length cap olds hold (.slice A m c) m (ys.map bv) hsrc hlt (by omega) (by rw [hz2, Nat.mul_one]; exact Nat.le_trans (nextslicecap_le hlt) (by omega))
    refine ⟨_, _, _, hrun, .inr ⟨w.heap.size, 0, _, _, by rw [List.length_append, hyl], hB, Blk.new w.drew _ _, ?_, ?_, grownCap_le_maxLen _ _ _ _ (by unfold maxLen; omega), fun j b hj => ?_⟩, ((Only.refl _ w).drew).alloc _, .inr rfl⟩
    · have hg := grownCap_ge w (xs.length + m) cap 5
      rw [hol]
      simp [Builtin.zeroCells, Value.cells]
      omega
    · rw [List.length_append, hyl]; exact grownCap_ge _ _ _ _
    · rw [Nat.zero_add]
      have hlt2 := (List.getElem?_eq_some_iff.1 hj).1
      rw [Array.getElem?_append_left (by rw [hol]; simpa using hlt2)]
      rw [hol, ← List.map_append]
      simpa using bv_get hj
  rcases h with ⟨rfl, rfl⟩ | ⟨g, off, cap, cs, rfl, hBg, hb, hs, hn, hm, hx⟩
  · rcases Nat.eq_zero_or_pos m with h0 | h0
    · subst h0
      obtain rfl : ys = [] := List.eq_nil_of_length_eq_zero hyl
      exact ⟨none, 0, w, run_append_nothing w 36 36 ty 5 i0 Try.underlying36 hi none 0 0 (Nat.le_refl _) _ hsrc, .inl ⟨rfl, rfl⟩, Only.refl _ _, .inl rfl⟩
    · exact grow none 0 [] rfl (run_firstCells_none w.drew i0.size 0 0 0) (by simp; omega) (Nat.zero_le _)
  · by_cases hroom : xs.length + m ≤ cap
    · have hrun := run_append_room_src (P := Try.prog) w 36 36 ty 5 i0 Try.underlying36 hi g off xs.length cap (.slice A m c) m (ys.map bv) hsrc hroom
        (fun j hj => by rw [hz1, Nat.mul_one, hb.cell]; simp at hj; simp; omega) (fun j hj => hb.frozen _)
      rw [hz1, Nat.mul_one] at hrun
      refine ⟨_, _, _, hrun, .inr ⟨g, off, cap, _, by rw [List.length_append, hyl], hBg, Blk.setCells_ _ _ _ _ hb, by rw [layC_size]; exact hs, by rw [List.length_append, hyl]; exact hroom, hm, fun j b hj => ?_⟩, Only.setCells (F := fun k => blkOf (.slice (some ⟨g, off, none⟩) xs.length cap) = some k) (fun _ => rfl) _ _ _ (Only.refl _ w), .inl rfl⟩
      by_cases hlt : j < xs.length
      · rw [List.getElem?_append_left hlt] at hj
        rw [layC_out _ _ _ (.inl (by omega))]
        exact hx j b hj
      · rw [List.getElem?_append_right (by omega)] at hj
        have h2 := layC_in (ys.map bv) (off + xs.length) cs (by simp; omega) (j - xs.length) (bv b) (bv_get hj)
        rw [← h2]
        congr 1
        omega
    · have hcells : (Builtin.firstCells i0.size xs.length (.slice (some ⟨g, off, none⟩) xs.length cap)).run Try.prog w.drew = .ok (xs.map bv).toArray w.drew := by
        rw [hz1]
        refine run_firstCells_some w.drew 1 xs.length ⟨g, off, none⟩ xs.length cap (xs.map bv) (by simp) (fun j u hu => ?_)
        rw [add_lit]
        show w.cell? _ = _
        rw [hb.cell]
        rw [List.getElem?_map] at hu
        cases hj : xs[j]? with
        | none => rw [hj] at hu; cases hu
        | some b =>
          rw [hj] at hu
          simp only [Option.map_some, Option.some.injEq] at hu
          rw [hx j b hj, hu]
      exact grow _ cap _ rfl hcells (by omega) hm

set_option maxRecDepth 100000 in
theorem wpList_append_mid {w : World} {ops : Array Oper} {rest : List Oper} {o : Oper} {a : Act} {Q : Exit → Act → World → Prop} (hgd : o.guard = none) (s x : Operand)
    (ho : o.op = .call { callee := .builtin .append, args := #[s, x], argTypes := #[36, 36] })
    (B : Nat) (v : Value) (xs : List UInt8) (hs : a.eval s = v) (hv : MidB w B v xs) (A : Option Addr) (m c : Nat) (ys : List UInt8) (hx : a.eval x = .slice A m c) (hr : RdB w A m ys) (hlim : xs.length + m ≤ 100000000000) (hB : B ≤ w.heap.size)
    (h : ∀ A' c' w', Hid (MidB w' B (.slice A' (xs.length + m) c') (xs ++ ys)) → Hid (Only (fun k => blkOf v = some k) w w') → (blkOf (.slice A' (xs.length + m) c') = blkOf v ∨ blkOf (.slice A' (xs.length + m) c') = some w.heap.size) → wpList Try.prog ops Q rest (a.put o.dst (.slice A' (xs.length + m) c')) w') : wpList Try.prog ops Q (o :: rest) a w := by
  refine wpList_plain hgd fun K hK => ?_
  obtain ⟨A', c', w', hrun, h1, h2, h3⟩ := run_append_mid w o.type hv A m c ys hr hlim hB
  unfold Oper.wp execOp
  simp only [ho, resolve, invoke, builtin, Sem.run_bind, Sem.run_pure, Result.andThen_ok, List.map_toArray, List.map_cons, List.map_nil, hs, hx, hrun]
  exact hK _ _ (h A' c' w' h1 h2 h3)
end
end Go.Proofs.Ytenommboacjopaa
