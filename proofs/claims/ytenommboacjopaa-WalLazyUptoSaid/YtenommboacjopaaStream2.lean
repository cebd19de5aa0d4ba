/- A disk's bytes sector by sector: what is laid over them depends on the last write of each sector alone. No program. -/
import Derived.Test.YtenommboacjopaaStream
namespace Go.Proofs.Ytenommboacjopaa
open Go.RowKit

/-- The sector a of some bytes. -/
def sec (d : List UInt8) (size a : Nat) : List UInt8 := (d.drop (a * size)).take size
theorem sec_get {d : List UInt8} {size a i : Nat} (hi : i < size) : (sec d size a)[i]? = d[a * size + i]? := by
  unfold sec
  rw [List.getElem?_take, if_pos hi, List.getElem?_drop]
theorem sec_len {d : List UInt8} {size a n : Nat} (hl : d.length = n * size) (ha : a < n) : (sec d size a).length = size := by
  have h := fits (size := size) ha
  unfold sec
  rw [List.length_take, List.length_drop]
  omega
theorem sec_ext {d e : List UInt8} {size n : Nat} (h0 : 0 < size) (hd : d.length = n * size) (he : e.length = n * size) (h : ∀ a, a < n → sec d size a = sec e size a) : d = e := by
  apply List.ext_getElem?
  intro i
  rcases Nat.lt_or_ge i (n * size) with hi | hi
  · have ha : i / size < n := Nat.div_lt_of_lt_mul (by rw [Nat.mul_comm]; exact hi)
    have hm : i % size < size := Nat.mod_lt _ h0
    have e1 : i / size * size + i % size = i := by rw [Nat.mul_comm]; exact Nat.div_add_mod i size
    have h1 := sec_get (d := d) (a := i / size) hm
    have h2 := sec_get (d := e) (a := i / size) hm
    rw [e1] at h1 h2
    rw [← h1, ← h2, h _ ha]
  · rw [List.getElem?_eq_none (by omega), List.getElem?_eq_none (by omega)]

theorem sec_layW {d : List UInt8} {size n a : Nat} {p : Wr} (hl : d.length = n * size) (hp : p.1 < n) (hps : p.2.length = size) (ha : a < n) : sec (layW d size p) size a = if p.1 = a then p.2 else sec d size a := by
  have f1 := fits (size := size) hp
  have f2 := fits (size := size) ha
  have hs : layW d size p = d.take (p.1 * size) ++ (p.2 ++ d.drop (p.1 * size + p.2.length)) := by simp [layW, splice]
  have hlt : (d.take (p.1 * size)).length = p.1 * size := by rw [List.length_take]; omega
  by_cases h : p.1 = a
  · rw [if_pos h]
    unfold sec
    rw [hs, ← h]
    have e1 : (d.take (p.1 * size) ++ (p.2 ++ d.drop (p.1 * size + p.2.length))).drop (p.1 * size) = p.2 ++ d.drop (p.1 * size + p.2.length) := by
      rw [List.drop_append_of_le_length (by omega), List.drop_of_length_le (by omega), List.nil_append]
    rw [e1, List.take_append_of_le_length (by omega), List.take_of_length_le (by omega)]
  · rw [if_neg h]
    unfold sec
    rw [hs]
    rcases Nat.lt_or_ge a p.1 with hlt2 | hge
    · have h2 : (a + 1) * size ≤ p.1 * size := Nat.mul_le_mul_right _ (by omega)
      rw [Nat.succ_mul] at h2
      rw [List.drop_append_of_le_length (by omega), List.take_append_of_le_length (by rw [List.length_drop]; omega), List.drop_take, List.take_take, Nat.min_eq_left (by omega)]
    · have h2 : (p.1 + 1) * size ≤ a * size := Nat.mul_le_mul_right _ (by omega)
      rw [Nat.succ_mul] at h2
      have e1 : (d.take (p.1 * size) ++ (p.2 ++ d.drop (p.1 * size + p.2.length))).drop (a * size) = d.drop (a * size) := by
        rw [← List.append_assoc, List.drop_append, List.drop_of_length_le (by rw [List.length_append]; omega), List.nil_append, List.drop_drop, List.length_append, hlt, hps]
        congr 1
        omega
      rw [e1]

theorem sec_layAll {d : List UInt8} {size n a : Nat} (hl : d.length = n * size) (ha : a < n) (l : List Wr) : (∀ x ∈ l, x.1 < n ∧ x.2.length = size) → sec (layAll d size l) size a = (lastW l a).getD (sec d size a) := by
  refine snoc_ind (P := fun l => (∀ x ∈ l, x.1 < n ∧ x.2.length = size) → sec (layAll d size l) size a = (lastW l a).getD (sec d size a)) (fun _ => rfl) ?_ l
  intro l p ih h
  have hp := h p (by simp)
  rw [layAll_snoc, sec_layW (layAll_length l hl (fun x hx => h x (by simp [hx]))) hp.1 hp.2 ha, lastW_snoc, ih fun x hx => h x (by simp [hx])]
  split <;> rfl
/-- What is laid depends on each sector's last write alone. -/
theorem layAll_same {d : List UInt8} {size n : Nat} (h0 : 0 < size) (hl : d.length = n * size) {l l' : List Wr} (h1 : ∀ x ∈ l, x.1 < n ∧ x.2.length = size) (h2 : ∀ x ∈ l', x.1 < n ∧ x.2.length = size) (h : ∀ a, lastW l a = lastW l' a) :
    layAll d size l = layAll d size l' :=
  sec_ext h0 (layAll_length l hl h1) (layAll_length l' hl h2) fun a ha => by rw [sec_layAll hl ha l h1, sec_layAll hl ha l' h2, h a]

/-- The sectors that the document writes for a stream: those before the k-th. -/
def wantL (first ep room size : Nat) (S : List UInt8) : Nat → List Wr
  | 0 => []
  | k + 1 => if 0 < (piece S room k).length then wantL first ep room size S k ++ [(first + k, lSec size ep k (piece S room k))] else wantL first ep room size S k
theorem piece_pos {S : List UInt8} {room k : Nat} (hr : 0 < room) : 0 < (piece S room k).length ↔ k * room < S.length := by
  unfold piece
  rw [List.length_take, List.length_drop]
  omega
theorem wantL_last (first ep room size : Nat) (S : List UInt8) (hr : 0 < room) : ∀ (m a : Nat), lastW (wantL first ep room size S m) a = if first ≤ a ∧ a - first < m ∧ (a - first) * room < S.length then some (lSec size ep (a - first) (piece S room (a - first))) else none := by
  intro m
  induction m with
  | zero => intro a; rw [if_neg (by rintro ⟨_, h, _⟩; omega)]; rfl
  | succ m ih =>
    intro a
    unfold wantL
    by_cases hp : 0 < (piece S room m).length
    · have hp2 := (piece_pos (S := S) hr).1 hp
      rw [if_pos hp, lastW_snoc, ih a]
      by_cases ha : first + m = a
      · subst ha
        have e : first + m - first = m := by omega
        rw [if_pos rfl, e, if_pos ⟨by omega, by omega, hp2⟩]
      · rw [if_neg ha]
        have : (first ≤ a ∧ a - first < m ∧ (a - first) * room < S.length) ↔ (first ≤ a ∧ a - first < m + 1 ∧ (a - first) * room < S.length) := by
          constructor
          · rintro ⟨x, y, z⟩; exact ⟨x, by omega, z⟩
          · rintro ⟨x, y, z⟩; exact ⟨x, by omega, z⟩
        simp only [this]
    · have hp2 : ¬ m * room < S.length := fun x => hp ((piece_pos hr).2 x)
      rw [if_neg hp, ih a]
      have : (first ≤ a ∧ a - first < m ∧ (a - first) * room < S.length) ↔ (first ≤ a ∧ a - first < m + 1 ∧ (a - first) * room < S.length) := by
        constructor
        · rintro ⟨x, y, z⟩; exact ⟨x, by omega, z⟩
        · rintro ⟨x, y, z⟩
          refine ⟨x, ?_, z⟩
          rcases Nat.lt_or_ge (a - first) m with h | h
          · exact h
          · have : a - first = m := by omega
            rw [this] at z
            exact absurd z hp2
      simp only [this]
theorem wantL_ok {first ep room size n count : Nat} {S : List UInt8} (hf : first + count ≤ n) (hs : room + 17 = size) : ∀ k, k ≤ count → ∀ x ∈ wantL first ep room size S k, x.1 < n ∧ x.2.length = size := by
  intro k
  induction k with
  | zero => intro _ x hx; cases hx
  | succ k ih =>
    intro hk x hx
    unfold wantL at hx
    split at hx
    · rcases List.mem_append.1 hx with h | h
      · exact ih (by omega) x h
      · simp at h
        subst h
        refine ⟨by show first + k < n; omega, ?_⟩
        have hp : (piece S room k).length ≤ room := by unfold piece; rw [List.length_take]; omega
        show (lSec size ep k (piece S room k)).length = size
        rw [lSec, sealB_length (by rw [List.length_append, leB_length]; omega)]
        omega
    · exact ih (by omega) x hx
/-- The disk's bytes behind a flush are just the document's sectors, laid over what was there. -/
theorem LogHas.image {first ep room count n : Nat} {D : Dk} {S tl : List UInt8} {at_ : Nat} (h : LogHas first ep room D S at_ tl) (hok : DkOk D) (hn : D.n = n) (hf : first + count ≤ n) (hs : room + 17 = D.size) (hS : S.length ≤ count * room) :
    layAll D.dur D.size D.wait = layAll D.dur D.size (wantL first ep room D.size S count) := by
  have hr : 0 < room := by have := h.lt; omega
  refine layAll_same (n := D.n) (by omega) hok.len hok.wt (by rw [hn]; exact wantL_ok hf hs count (Nat.le_refl _)) fun a => ?_
  rw [h.secs a, wantL_last _ _ _ _ _ hr]
  by_cases hc : first ≤ a ∧ (a - first) * room < S.length
  · have : a - first < count := by
      rcases Nat.lt_or_ge (a - first) count with h1 | h1
      · exact h1
      · have : count * room ≤ (a - first) * room := Nat.mul_le_mul_right _ h1
        omega
    rw [if_pos hc, if_pos ⟨hc.1, this, hc.2⟩]
  · rw [if_neg hc, if_neg (fun x => hc ⟨x.1, x.2.2⟩)]
end Go.Proofs.Ytenommboacjopaa
