/- The sectors of the full disk hold the stream. -/
import Derived.Test.YtenommboacjopaaLaw1
import Derived.Test.YtenommboacjopaaFull
namespace Go.Proofs.Ytenommboacjopaa
open Go.RowKit

theorem FullDisk.holds {w : World} {B b : Nat} {y : Lay} {T : List (List UInt8)} {D : Dk} {M : DkM} (h : FullDisk w B b y T D M) (hep : y.ep < 18446744073709551616) (hS : (streamB T).length ≤ y.count * (y.size - 17)) : Holds (secOf D y.first) y.count (y.size - 17) y.ep (streamB T) := by
  obtain ⟨o1, o2, o3, o4, o5, o6, o7, o8⟩ := y.ok
  refine ⟨by omega, hS, fun j hj => ?_⟩
  have hlt : y.first + j < y.n := by omega
  have e1 : secOf D y.first j = sec D.dur y.size (y.first + j) := by
    show D.holds (y.first + j) = _
    unfold Dk.holds
    rw [h.wait, h.size]
    rfl
  have hz : (List.replicate (y.n * y.size) (0 : UInt8)).length = y.n * y.size := List.length_replicate
  have e2 := sec_layAll (size := y.size) (n := y.n) (a := y.first + j) hz hlt (wantL y.first y.ep (y.size - 17) y.size (streamB T) y.count) (wantL_ok o6 (by omega) y.count (Nat.le_refl _))
  rw [e1, h.dur, e2, wantL_last _ _ _ _ _ (by omega), Nat.add_sub_cancel_left]
  by_cases hc : j * (y.size - 17) < (streamB T).length
  · rw [if_pos ⟨Nat.le_add_right _ _, hj, hc⟩, if_pos hc]
    refine pieceO_lSec o2 ?_ (by omega) hep
    unfold piece
    rw [List.length_take]
    omega
  · rw [if_neg (fun x => hc x.2.2), if_neg hc]
    have e3 : sec (List.replicate (y.n * y.size) (0 : UInt8)) y.size (y.first + j) = List.replicate y.size 0 := by
      have hf := fits (size := y.size) hlt
      unfold sec
      rw [List.drop_replicate, List.take_replicate]
      congr 1
      omega
    show pieceO y.ep j (sec _ _ _) = none
    rw [e3]
    exact pieceO_zero
end Go.Proofs.Ytenommboacjopaa
