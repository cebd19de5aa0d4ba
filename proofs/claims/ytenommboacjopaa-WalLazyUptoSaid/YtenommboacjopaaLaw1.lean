/- What a reader does on the sectors of a stream. No program. -/
import Derived.Test.YtenommboacjopaaLaw0
namespace Go.Proofs.Ytenommboacjopaa
open Go.RowKit

/-- The sectors hold the stream S. -/
structure Holds (sec : Nat → List UInt8) (count room epoch : Nat) (S : List UInt8) : Prop where
  r : 0 < room
  fit : S.length ≤ count * room
  at_ : ∀ j, j < count → pieceO epoch j (sec j) = if j * room < S.length then some (piece S room j) else none
/-- The reader behind j sectors. -/
def rs (room : Nat) (S : List UInt8) (j : Nat) : Rst := ⟨j, decide (j * room ≤ S.length), S.take (j * room)⟩

section
variable {sec : Nat → List UInt8} {count room epoch : Nat} {S : List UInt8}
theorem Holds.step (h : Holds sec count room epoch S) {j : Nat} (hj : j < count) (hm : j * room ≤ S.length) : rd1 sec count room epoch (rs room S j) = rs room S (j + 1) := by
  have hr := h.r
  have hp := h.at_ j hj
  by_cases hlt : j * room < S.length
  · rw [if_pos hlt] at hp
    rw [rd1_some (R := rs room S j) hj hp]
    have hlen : (piece S room j).length = min room (S.length - j * room) := by unfold piece; rw [List.length_take, List.length_drop]
    have hall : S.take (j * room) ++ piece S room j = S.take ((j + 1) * room) := by
      unfold piece
      rw [Nat.succ_mul, List.take_add]
    unfold rs
    rw [hall, hlen]
    congr 1
    rw [Nat.succ_mul]
    exact decide_eq_decide.2 (by omega)
  · rw [if_neg hlt] at hp
    rw [rd1_none (R := rs room S j) hj hp]
    have hd : decide ((j + 1) * room ≤ S.length) = false := decide_eq_false (by rw [Nat.succ_mul]; omega)
    have ht1 : S.take (j * room) = S := List.take_of_length_le (by omega)
    have ht2 : S.take ((j + 1) * room) = S := List.take_of_length_le (by rw [Nat.succ_mul]; omega)
    show (⟨j + 1, false, S.take (j * room)⟩ : Rst) = ⟨j + 1, decide ((j + 1) * room ≤ S.length), S.take ((j + 1) * room)⟩
    rw [hd, ht1, ht2]
/-- How many sectors hold the first m bytes. -/
def jn (room m : Nat) : Nat := if m = 0 then 0 else (m - 1) / room + 1
theorem jn_le {room m j : Nat} (hr : 0 < room) : jn room m ≤ j ↔ m ≤ j * room := by
  unfold jn
  split
  · omega
  · rw [Nat.succ_le_iff, Nat.div_lt_iff_lt_mul hr]
    omega
theorem jn_mono {room a b : Nat} (hr : 0 < room) (h : a ≤ b) : jn room a ≤ jn room b := by
  rw [jn_le hr]
  have := (jn_le hr (m := b) (j := jn room b)).1 (Nat.le_refl _)
  omega
/-- Bytes that are there are had by reading just the sectors up to them. -/
theorem Holds.want (h : Holds sec count room epoch S) {m : Nat} (hm : m ≤ S.length) : ∀ (d j : Nat), d = jn room m - j → j ≤ count → wantF sec count room epoch m (rs room S j) = rs room S (max j (jn room m)) := by
  have hr := h.r
  intro d
  induction d with
  | zero =>
    intro j hd hj
    have hle : jn room m ≤ j := by omega
    have h2 := (jn_le hr).1 hle
    rw [wantF_stop, Nat.max_eq_left hle]
    rintro ⟨hx, _⟩
    have h3 : (S.take (j * room)).length < m := hx
    rw [List.length_take] at h3
    omega
  | succ d ih =>
    intro j hd hj
    have hlt : ¬ m ≤ j * room := fun x => by have := (jn_le hr (m := m) (j := j)).2 x; omega
    have hjc : j < count := by
      rcases Nat.lt_or_ge j count with h1 | h1
      · exact h1
      · have h2 : count * room ≤ j * room := Nat.mul_le_mul_right _ h1
        have := h.fit
        omega
    have hmr : (rs room S j).more = true := decide_eq_true (by omega)
    have hal : (rs room S j).all.length < m := by show (S.take (j * room)).length < m; rw [List.length_take]; omega
    rw [wantF_go ⟨hal, hmr⟩, h.step hjc (by omega), ih (j + 1) (by omega) (by omega)]
    congr 1
    omega
/-- Bytes that are not there: all is read up to the first sector that is not full. -/
theorem Holds.over (h : Holds sec count room epoch S) {m : Nat} (hm : S.length < m) : ∀ (d j : Nat), d = count - j → j ≤ count → (j = 0 ∨ (j - 1) * room ≤ S.length) → (wantF sec count room epoch m (rs room S j)).all = S ∧ (wantF sec count room epoch m (rs room S j)).reads = min count (S.length / room + 1) := by
  have hr := h.r
  have hdiv : ∀ j, j * room ≤ S.length ↔ j ≤ S.length / room := fun j => (Nat.le_div_iff_mul_le hr).symm
  obtain ⟨q, hq⟩ : ∃ q, q = S.length / room := ⟨_, rfl⟩
  rw [← hq] at hdiv ⊢
  intro d
  induction d with
  | zero =>
    intro j hd hj hp
    obtain rfl : j = count := by omega
    have hall : S.take (j * room) = S := List.take_of_length_le h.fit
    have hal : (rs room S j).all.length < m := by show (S.take (j * room)).length < m; rw [hall]; exact hm
    have hmin : min j (q + 1) = j := by
      rcases hp with hp | hp
      · omega
      · have := (hdiv (j - 1)).1 hp
        omega
    by_cases hmr : j * room ≤ S.length
    · rw [wantF_go ⟨hal, decide_eq_true hmr⟩]
      have e : rd1 sec j room epoch (rs room S j) = { rs room S j with more := false } := by unfold rd1; rw [if_pos (show j ≤ (rs room S j).reads from Nat.le_refl j)]
      rw [e, wantF_stop (fun x => by cases x.2), hmin]
      exact ⟨hall, rfl⟩
    · rw [wantF_stop (fun x => hmr (of_decide_eq_true x.2)), hmin]
      exact ⟨hall, rfl⟩
  | succ d ih =>
    intro j hd hj hp
    have hjc : j < count := by omega
    by_cases hmr : j * room ≤ S.length
    · have hal : (rs room S j).all.length < m := by show (S.take (j * room)).length < m; rw [List.length_take]; omega
      rw [wantF_go ⟨hal, decide_eq_true hmr⟩, h.step hjc hmr]
      exact ih (j + 1) (by omega) (by omega) (.inr (by rw [Nat.add_sub_cancel]; exact hmr))
    · rw [wantF_stop (fun x => hmr (of_decide_eq_true x.2))]
      refine ⟨List.take_of_length_le (by omega), ?_⟩
      show j = _
      have h1 : ¬ j ≤ q := fun x => hmr ((hdiv j).2 x)
      rcases hp with hp | hp
      · subst hp; simp at hmr
      · have := (hdiv (j - 1)).1 hp
        omega
end

/-- The stream's records. -/
theorem streamB_drop (T : List (List UInt8)) (i : Nat) : (streamB T).drop (streamB (T.take i)).length = streamB (T.drop i) := by
  have h : streamB T = streamB (T.take i) ++ streamB (T.drop i) := by
    rw [streamB, streamB, streamB, ← List.flatMap_append, List.take_append_drop]
  rw [h, List.drop_left]
theorem streamB_cons (r : List UInt8) (l : List (List UInt8)) : streamB (r :: l) = leB r.length 2 ++ (r ++ streamB l) := by simp [streamB]

section
variable {sec : Nat → List UInt8} {count room epoch : Nat} {T : List (List UInt8)}
/-- One record more. -/
theorem Holds.recF_ (h : Holds sec count room epoch (streamB T)) (hT : ∀ r ∈ T, 1 ≤ r.length ∧ r.length ≤ 1024) {i : Nat} {r : List UInt8} (hr : T[i]? = some r) :
    recF sec count room epoch (streamB (T.take i)).length (rs room (streamB T) (jn room (streamB (T.take i)).length)) = (some r, rs room (streamB T) (jn room (streamB (T.take (i + 1))).length)) := by
  have hr0 := h.r
  obtain ⟨hr1, hr2⟩ := hT r (List.mem_of_getElem? hr)
  obtain ⟨S, hS⟩ : ∃ S, S = streamB T := ⟨_, rfl⟩
  obtain ⟨a, ha⟩ : ∃ a, a = (streamB (T.take i)).length := ⟨_, rfl⟩
  have hi : i < T.length := (List.getElem?_eq_some_iff.1 hr).1
  have e1 : T.take (i + 1) = T.take i ++ [r] := by rw [List.take_add_one, hr]; rfl
  have ha2 : (streamB (T.take (i + 1))).length = a + 2 + r.length := by rw [e1, streamB_snoc, List.length_append, List.length_append, leB_length, ha]
  have hle : a + 2 + r.length ≤ S.length := by rw [← ha2, hS]; exact streamB_take_le T (i + 1)
  have hdr : S.drop a = leB r.length 2 ++ (r ++ streamB (T.drop (i + 1))) := by
    have hc : T.drop i = r :: T.drop (i + 1) := by
      rw [List.drop_eq_getElem_cons hi]
      congr 1
      exact (List.getElem?_eq_some_iff.1 hr).2
    rw [hS, ha, streamB_drop, hc, streamB_cons]
  rw [ha2, ← ha, ← hS]
  rw [← hS] at h
  have hjc : ∀ m, m ≤ S.length → jn room m ≤ count := fun m hm => (jn_le hr0).2 (Nat.le_trans hm h.fit)
  have w1 := h.want (m := a + 2) (by omega) _ (jn room a) rfl (hjc a (by omega))
  rw [Nat.max_eq_right (jn_mono hr0 (by omega))] at w1
  have w2 := h.want (m := a + (2 + r.length)) (by omega) _ (jn room (a + 2)) rfl (hjc _ (by omega))
  rw [Nat.max_eq_right (jn_mono hr0 (by omega)), show a + (2 + r.length) = a + 2 + r.length from by omega] at w2
  have hall : ∀ m, m ≤ S.length → m ≤ (rs room S (jn room m)).all.length := fun m hm => by
    show m ≤ (S.take (jn room m * room)).length
    rw [List.length_take]
    have := (jn_le hr0 (m := m) (j := jn room m)).1 (Nat.le_refl _)
    omega
  have hdrop : ∀ m x n, m ≤ S.length → x + n ≤ m → ((rs room S (jn room m)).all.drop x).take n = (S.drop x).take n := fun m x n hm hx => by
    show ((S.take (jn room m * room)).drop x).take n = _
    have h2 := (jn_le hr0 (m := m) (j := jn room m)).1 (Nat.le_refl _)
    rw [List.drop_take, List.take_take, Nat.min_eq_left (by omega)]
  have hn : leN (((rs room S (jn room (a + 2))).all.drop a).take 2) = r.length := by
    rw [hdrop (a + 2) a 2 (by omega) (Nat.le_refl _), hdr, List.take_append_of_le_length (by rw [leB_length]; omega), List.take_of_length_le (by rw [leB_length]; omega), leN_leB]
    have e : (256 : Nat) ^ 2 = 65536 := by decide
    exact Nat.mod_eq_of_lt (by omega)
  have hrec : ((rs room S (jn room (a + 2 + r.length))).all.drop (a + 2)).take r.length = r := by
    rw [hdrop _ _ _ hle (Nat.le_refl _)]
    have : S.drop (a + 2) = (S.drop a).drop 2 := by rw [List.drop_drop]
    rw [this, hdr, List.drop_append_of_le_length (by rw [leB_length]; omega), List.drop_of_length_le (by rw [leB_length]; omega), List.nil_append, List.take_append_of_le_length (Nat.le_refl _), List.take_of_length_le (Nat.le_refl _)]
  have hfin := recF_some (sec := sec) (count := count) (room := room) (epoch := epoch) (at_ := a) (n := r.length) (R := rs room S (jn room a)) (R1 := rs room S (jn room (a + 2))) (R2 := rs room S (jn room (a + 2 + r.length))) w1 (by have := hall (a + 2) (by omega); omega) hn (by omega) (by rw [show a + (2 + r.length) = a + 2 + r.length from by omega]; exact w2) (by have := hall _ hle; omega)
  rw [hfin, hrec]
theorem Holds.runs (h : Holds sec count room epoch (streamB T)) (hT : ∀ r ∈ T, 1 ≤ r.length ∧ r.length ≤ 1024) : ∀ i, i ≤ T.length → runK sec count room epoch i = some (T.take i, (streamB (T.take i)).length, rs room (streamB T) (jn room (streamB (T.take i)).length)) := by
  intro i
  induction i with
  | zero => intro _; simp [runK, streamB, jn, rs]
  | succ i ih =>
    intro hi
    obtain ⟨r, hr⟩ : ∃ r, T[i]? = some r := ⟨_, List.getElem?_eq_getElem (by omega)⟩
    have e1 : T.take (i + 1) = T.take i ++ [r] := by rw [List.take_add_one, hr]; rfl
    rw [runK_snoc (ih (by omega)) (h.recF_ hT hr), ← e1]
    congr 2
    rw [e1, streamB_snoc, List.length_append, List.length_append, leB_length]
theorem Holds.ends (h : Holds sec count room epoch (streamB T)) : ∃ R', recF sec count room epoch (streamB (T.take T.length)).length (rs room (streamB T) (jn room (streamB (T.take T.length)).length)) = (none, R') ∧ R'.reads = min count ((streamB T).length / room + 1) := by
  rw [List.take_length]
  obtain ⟨S, hS⟩ : ∃ S, S = streamB T := ⟨_, rfl⟩
  rw [← hS] at h ⊢
  have hr0 := h.r
  have hj : jn room S.length ≤ count := (jn_le hr0).2 h.fit
  have hp : jn room S.length = 0 ∨ (jn room S.length - 1) * room ≤ S.length := by
    unfold jn
    split
    · exact .inl rfl
    · right
      rw [Nat.add_sub_cancel]
      exact Nat.le_trans (Nat.div_mul_le_self _ _) (Nat.sub_le _ _)
  obtain ⟨h1, h2⟩ := h.over (m := S.length + 2) (by omega) _ (jn room S.length) rfl hj hp
  refine ⟨_, recF_none1 rfl ?_, h2⟩
  rw [h1]
  omega
end
end Go.Proofs.Ytenommboacjopaa
