/- A sealed frame opens as what was sealed; the pieces of a log's sectors. No program. -/
import Derived.Test.YtenommboacjopaaIter
namespace Go.Proofs.Ytenommboacjopaa
open Go.RowKit

theorem openB_sealB (kind : UInt8) (gen : Nat) (body : List UInt8) (m : Nat) (hm : m + 4 ≤ 8192) (hb : body.length + 11 ≤ m) (hg : gen < 18446744073709551616) : openB (sealB kind gen body m) = some (kind, gen, body) := by
  have hl := sealB_length (kind := kind) (gen := gen) (body := body) (m := m) hb
  have hp := preB_length (kind := kind) (gen := gen) (body := body) (m := m) hb
  have ht : (sealB kind gen body m).take m = preB kind gen body m := by
    unfold sealB; rw [List.take_append_of_le_length (by omega), List.take_of_length_le (by omega)]
  have hd : (sealB kind gen body m).drop m = leB (crc (preB kind gen body m)).toNat 4 := by
    unfold sealB; rw [List.drop_append_of_le_length (by omega), List.drop_of_length_le (by omega), List.nil_append]
  have hs : sealB kind gen body m = [kind] ++ (leB body.length 2 ++ (leB gen 8 ++ (body ++ (List.replicate (m - 11 - body.length) 0 ++ leB (crc (preB kind gen body m)).toNat 4)))) := by
    unfold sealB preB
    simp [List.append_assoc]
  obtain ⟨X, hX⟩ : ∃ X, X = sealB kind gen body m := ⟨_, rfl⟩
  rw [← hX] at hl ht hd hs ⊢
  have h1 : X.drop 1 = leB body.length 2 ++ (leB gen 8 ++ (body ++ (List.replicate (m - 11 - body.length) 0 ++ leB (crc (preB kind gen body m)).toNat 4))) := by rw [hs]; rfl
  have hn : leN ((X.drop 1).take 2) = body.length := by
    rw [h1, List.take_append_of_le_length (by rw [leB_length]; omega), List.take_of_length_le (by rw [leB_length]; omega), leN_leB]
    exact Nat.mod_eq_of_lt (by have : body.length < 8192 := by omega
                               have e : (256 : Nat) ^ 2 = 65536 := by decide
                               omega)
  have h3 : X.drop 3 = leB gen 8 ++ (body ++ (List.replicate (m - 11 - body.length) 0 ++ leB (crc (preB kind gen body m)).toNat 4)) := by
    have : X.drop 3 = (X.drop 1).drop 2 := by rw [List.drop_drop]
    rw [this, h1, List.drop_append_of_le_length (by rw [leB_length]; omega), List.drop_of_length_le (by rw [leB_length]; omega), List.nil_append]
  have hgen : leN ((X.drop 3).take 8) = gen := by
    rw [h3, List.take_append_of_le_length (by rw [leB_length]; omega), List.take_of_length_le (by rw [leB_length]; omega), leN_leB]
    exact Nat.mod_eq_of_lt (by have e : (256 : Nat) ^ 8 = 18446744073709551616 := by decide
                               omega)
  have h11 : X.drop 11 = body ++ (List.replicate (m - 11 - body.length) 0 ++ leB (crc (preB kind gen body m)).toNat 4) := by
    have : X.drop 11 = (X.drop 3).drop 8 := by rw [List.drop_drop]
    rw [this, h3, List.drop_append_of_le_length (by rw [leB_length]; omega), List.drop_of_length_le (by rw [leB_length]; omega), List.nil_append]
  have hz : (X.drop (11 + body.length)).take (m + 4 - 15 - body.length) = List.replicate (m - 11 - body.length) 0 := by
    have : X.drop (11 + body.length) = (X.drop 11).drop body.length := by rw [List.drop_drop]
    rw [this, h11, List.drop_append_of_le_length (Nat.le_refl _), List.drop_of_length_le (Nat.le_refl _), List.nil_append, List.take_append_of_le_length (by rw [List.length_replicate]; omega), List.take_of_length_le (by rw [List.length_replicate]; omega)]
  unfold openB
  rw [hl, if_neg (by omega), show m + 4 - 4 = m from by omega, ht, hd, leN_leB, if_neg (by
    have e : (256 : Nat) ^ 4 = 2 ^ 32 := by decide
    have h5 := (crc (preB kind gen body m)).isLt
    rw [e, Nat.mod_eq_of_lt h5]
    exact fun h => h rfl), hn, if_neg (by omega), hz, if_neg (by simp), hgen, h11]
  rw [List.take_append_of_le_length (Nat.le_refl _), List.take_of_length_le (Nat.le_refl _)]
  congr 1
  rw [hs]; rfl

/-- The piece that a log's sector holds. -/
theorem pieceO_lSec {size ep k : Nat} {p : List UInt8} (hs : size ≤ 1024) (hp : p.length + 17 ≤ size) (hk : k < 65536) (he : ep < 18446744073709551616) : pieceO ep k (lSec size ep k p) = some p := by
  unfold pieceO lSec
  rw [openB_sealB 87 ep (leB k 2 ++ p) (size - 4) (by omega) (by rw [List.length_append, leB_length]; omega) he]
  have h1 : (leB k 2 ++ p).take 2 = leB k 2 := by rw [List.take_append_of_le_length (by rw [leB_length]; omega), List.take_of_length_le (by rw [leB_length]; omega)]
  have h2 : (leB k 2 ++ p).drop 2 = p := by rw [List.drop_append_of_le_length (by rw [leB_length]; omega), List.drop_of_length_le (by rw [leB_length]; omega), List.nil_append]
  have h3 : leN ((leB k 2 ++ p).take 2) = k := by
    rw [h1, leN_leB]
    have e : (256 : Nat) ^ 2 = 65536 := by decide
    exact Nat.mod_eq_of_lt (by omega)
  show (if (87 : UInt8) = 87 ∧ ep = ep ∧ 2 ≤ (leB k 2 ++ p).length ∧ leN ((leB k 2 ++ p).take 2) = k then some ((leB k 2 ++ p).drop 2) else none) = some p
  rw [if_pos ⟨rfl, rfl, by rw [List.length_append, leB_length]; omega, h3⟩, h2]
/-- A sector of zeros holds none. -/
theorem pieceO_zero {size ep k : Nat} : pieceO ep k (List.replicate size 0) = none := by
  unfold pieceO
  split
  · rename_i kind gen body h
    rw [if_neg]
    rintro ⟨hk, _⟩
    unfold openB at h
    split at h
    · cases h
    · split at h
      · cases h
      · split at h
        · cases h
        · split at h
          · cases h
          · injection h with h
            injection h with h1 h
            rw [hk] at h1
            have : (List.replicate size (0 : UInt8)).getD 0 0 = 0 := by
              rw [List.getD_eq_getElem?_getD, List.getElem?_replicate]
              split <;> rfl
            rw [this] at h1
            cases h1
  · rfl
end Go.Proofs.Ytenommboacjopaa
