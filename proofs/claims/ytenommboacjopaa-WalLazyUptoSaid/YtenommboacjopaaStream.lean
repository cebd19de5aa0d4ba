/- What the log's sectors hold behind some appends: the pieces of the stream. No program. -/
import Derived.Test.YtenommboacjopaaRooms0
import Derived.Test.YtenommboacjopaaRef3
namespace Go.Proofs.Ytenommboacjopaa
open Go.RowKit

/-- The piece k of a stream. -/
def piece (S : List UInt8) (room k : Nat) : List UInt8 := (S.drop (k * room)).take room
theorem Good.put_dur {D : Dk} (h : Good D) (k : Nat) (bs : List UInt8) : (D.put k bs).dur = D.dur ∧ (D.put k bs).wait = D.wait ++ [(k, bs)] := by
  have e1 := h.dead
  have e2 := h.armed
  constructor <;> simp [Dk.put, Dk.write, e1, e2]

/-- The waiting writes are the pieces of the stream S; the log stands behind them. -/
structure LogHas (firstN epN roomN : Nat) (D : Dk) (S : List UInt8) (at_ : Nat) (tl : List UInt8) : Prop where
  len : at_ * roomN + tl.length = S.length
  tail : tl = S.drop (at_ * roomN)
  lt : tl.length < roomN
  secs : ∀ a, lastW D.wait a = if firstN ≤ a ∧ (a - firstN) * roomN < S.length then some (lSec D.size epN (a - firstN) (piece S roomN (a - firstN))) else none

theorem piece_low {S E : List UInt8} {room k : Nat} (h : (k + 1) * room ≤ S.length) : piece (S ++ E) room k = piece S room k := by
  unfold piece
  rw [Nat.succ_mul] at h
  rw [List.drop_append_of_le_length (by omega), List.take_append_of_le_length (by rw [List.length_drop]; omega)]
theorem piece_here {S E tl : List UInt8} {room k : Nat} (h : tl = S.drop (k * room)) (hk : k * room ≤ S.length) (hl : (tl ++ E).length ≤ room) : piece (S ++ E) room k = tl ++ E := by
  unfold piece
  rw [List.drop_append_of_le_length hk, ← h, List.take_of_length_le hl]

theorem LogHas.step {first ep room : Nat} {D : Dk} {S tl E : List UInt8} {at_ : Nat} (h : LogHas first ep room D S at_ tl) (hg : Good D) (hE : 0 < E.length) (hl : tl.length + E.length ≤ room) :
    ∀ a, lastW (D.put (first + at_) (lSec D.size ep at_ (tl ++ E))).wait a = if first ≤ a ∧ (a - first) * room < (S ++ E).length then some (lSec D.size ep (a - first) (piece (S ++ E) room (a - first))) else none := by
  intro a
  have h1 := h.len
  rw [(hg.put_dur _ _).2, lastW_snoc, h.secs a]
  by_cases ha : first + at_ = a
  · subst ha
    have e : first + at_ - first = at_ := by omega
    rw [if_pos rfl, e, if_pos ⟨by omega, by rw [List.length_append]; omega⟩]
    rw [piece_here h.tail (by omega) (by rw [List.length_append]; omega)]
  · rw [if_neg ha]
    by_cases hf : first ≤ a
    · obtain ⟨k, rfl⟩ : ∃ k, a = first + k := ⟨a - first, by omega⟩
      have e : first + k - first = k := by omega
      rw [e]
      have hne : k ≠ at_ := fun x => ha (by omega)
      rcases Nat.lt_or_ge k at_ with hk | hk
      · have h2 : (k + 1) * room ≤ at_ * room := Nat.mul_le_mul_right _ (by omega)
        have h3 : k * room + room ≤ at_ * room := by rw [← Nat.succ_mul]; exact h2
        have hlt := h.lt
        rw [if_pos ⟨hf, by omega⟩, if_pos ⟨hf, by rw [List.length_append]; omega⟩, piece_low (by omega)]
      · have h2 : (at_ + 1) * room ≤ k * room := Nat.mul_le_mul_right _ (by omega)
        rw [Nat.succ_mul] at h2
        have hlt := h.lt
        rw [if_neg (by rintro ⟨_, x⟩; omega), if_neg (by rintro ⟨_, x⟩; rw [List.length_append] at x; omega)]
    · rw [if_neg (fun x => hf x.1), if_neg (fun x => hf x.1)]

/-- Append on a good disk: the stream is longer by the entry. -/
theorem LogHas.app_ {first ep room : Nat} : ∀ (n : Nat) (D : Dk) (S tl entry : List UInt8) (at_ : Nat), entry.length = n → Good D → LogHas first ep room D S at_ tl →
    ∃ D' at' tl', app first ep room D at_ tl entry = (D', 0, at', tl') ∧ Good D' ∧ D'.size = D.size ∧ D'.n = D.n ∧ D'.dur = D.dur ∧ LogHas first ep room D' (S ++ entry) at' tl' := by
  intro n
  induction n using Nat.strongRecOn with
  | _ n ih =>
    intro D S tl entry at_ hn hg h
    rcases Nat.eq_zero_or_pos entry.length with he | he
    · have : entry = [] := List.eq_nil_of_length_eq_zero he
      subst this
      exact ⟨D, at_, tl, app_nil _ _ _ _ _ _, hg, rfl, rfl, rfl, by rw [List.append_nil]; exact h⟩
    · obtain ⟨nn, hnn⟩ : ∃ nn, nn = min entry.length (room - tl.length) := ⟨_, rfl⟩
      have hlt := h.lt
      have hE : (entry.take nn).length = nn := by rw [List.length_take]; omega
      have hl2 : (entry.drop nn).length = entry.length - nn := List.length_drop
      have hs := h.step hg (E := entry.take nn) (by omega) (by omega)
      have h1 := h.len
      have hcat : S ++ entry = (S ++ entry.take nn) ++ entry.drop nn := by rw [List.append_assoc, List.take_append_drop]
      have hdr : tl ++ entry.take nn = (S ++ entry.take nn).drop (at_ * room) := by
        rw [List.drop_append_of_le_length (by omega), ← h.tail]
      rw [app_on hnn he hlt hg.putZ, hcat]
      split
      · rename_i hf
        have hf2 : tl.length + nn = room := by rw [List.length_append, hE] at hf; exact hf
        have hnew : LogHas first ep room (D.put (first + at_) (lSec D.size ep at_ (tl ++ entry.take nn))) (S ++ entry.take nn) (at_ + 1) [] := by
          refine ⟨by rw [Nat.succ_mul, List.length_append, hE]; simp only [List.length_nil]; omega, ?_, by show 0 < room; omega, ?_⟩
          · rw [List.drop_of_length_le (by rw [List.length_append, hE, Nat.succ_mul]; omega)]
          · intro a; rw [Dk.put_size]; exact hs a
        obtain ⟨D', at', tl', r1, r2, r3, r4, r5, r6⟩ := ih (entry.length - nn) (by omega) _ _ [] (entry.drop nn) (at_ + 1) hl2 (hg.put _ _) hnew
        exact ⟨D', at', tl', r1, r2, by rw [r3, Dk.put_size], by rw [r4, Dk.put_n], by rw [r5, (hg.put_dur _ _).1], r6⟩
      · rename_i hf
        have hf2 : tl.length + nn ≠ room := by rw [List.length_append, hE] at hf; exact hf
        have hnew : LogHas first ep room (D.put (first + at_) (lSec D.size ep at_ (tl ++ entry.take nn))) (S ++ entry.take nn) at_ (tl ++ entry.take nn) := by
          refine ⟨by rw [List.length_append, List.length_append, hE]; omega, hdr, by rw [List.length_append, hE]; omega, ?_⟩
          intro a; rw [Dk.put_size]; exact hs a
        obtain ⟨D', at', tl', r1, r2, r3, r4, r5, r6⟩ := ih (entry.length - nn) (by omega) _ _ (tl ++ entry.take nn) (entry.drop nn) at_ hl2 (hg.put _ _) hnew
        exact ⟨D', at', tl', r1, r2, by rw [r3, Dk.put_size], by rw [r4, Dk.put_n], by rw [r5, (hg.put_dur _ _).1], r6⟩
end Go.Proofs.Ytenommboacjopaa
