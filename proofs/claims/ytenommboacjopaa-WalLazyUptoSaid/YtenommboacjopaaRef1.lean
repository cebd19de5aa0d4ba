/- The document's own sum, bit by bit: arborref2.turn, Extend, Sum: the same as the program's. -/
import Derived.Test.YtenommboacjopaaRef0
namespace Go.Proofs.Ytenommboacjopaa
open Go.RowKit

/-- One bit into the register. -/
def turnW (r : W32) (bit : Nat) : W32 := if r.toNat % 2 ≠ bit then (r >>> 1) ^^^ poly else r >>> 1

theorem turn_any (r : W32) (bit : Nat) (w : World) : Calls Try.prog 101 #[.int .u32 (nv r), .int .u32 (bit : Int)] w (RetW (.int .u32 (nv (turnW r bit))) w) := by
  have h0 := nv_nonneg r
  have h1 := nv_lt r
  have m1 : (nv r).tmod 2 = ((r.toNat % 2 : Nat) : Int) := by rw [Int.tmod_eq_emod_of_nonneg h0]; unfold nv; simp
  have m2 : (nv r).tdiv 2 = nv (r >>> 1) := by rw [Int.tdiv_eq_ediv_of_nonneg h0]; exact half32 r
  have m3 := bits_poly r
  have h2 := nv_nonneg (r >>> 1)
  have h3 := nv_lt (r >>> 1)
  obtain ⟨q, hq⟩ : ∃ q, q = r.toNat % 2 := ⟨_, rfl⟩
  have hq2 : q < 2 := by rw [hq]; exact Nat.mod_lt _ (by omega)
  rw [← hq] at m1
  have HQ := Lib.hid hq
  clear hq
  go_enter Try.func101, Try.ntmps101
  by_cases he : q = bit
  · have HE : Hid (turnW r bit = r >>> 1) := by show _ = _; rw [turnW, if_neg (by rw [← HQ.out]; simp [he])]
    rw [HE.out]
    have hne : ((q : Int) != (bit : Int)) = false := by rw [he]; simp
    go_wp2
    all_goals go_ret
    all_goals exact ⟨rfl, rfl⟩
  · have HE : Hid (turnW r bit = (r >>> 1) ^^^ poly) := by show _ = _; rw [turnW, if_pos (by rw [← HQ.out]; exact he)]
    rw [HE.out]
    have hne : ((q : Int) != (bit : Int)) = true := by simp; omega
    go_wp2
    all_goals go_ret
    all_goals exact ⟨rfl, rfl⟩

theorem turn_step (R C : W32) : crcBit (R ^^^ C) = turnW R (C.toNat % 2) ^^^ (C >>> 1) := by
  have h : (R ^^^ C).toNat % 2 = 1 ↔ ¬ (R.toNat % 2 = C.toNat % 2) := by
    rw [BitVec.toNat_xor, Nat.xor_mod_two_eq_one]
    have h1 := Nat.mod_lt R.toNat (show 2 > 0 by omega)
    have h2 := Nat.mod_lt C.toNat (show 2 > 0 by omega)
    constructor
    · intro hh e
      exact hh ⟨fun x => by omega, fun x => by omega⟩
    · intro hh e
      by_cases h3 : R.toNat % 2 = 1
      · exact hh (h3.trans (e.1 h3).symm)
      · have h4 : ¬ C.toNat % 2 = 1 := fun x => h3 (e.2 x)
        omega
  unfold crcBit turnW
  by_cases hh : (R ^^^ C).toNat % 2 = 1
  · rw [if_pos hh, if_pos (h.1 hh), BitVec.ushiftRight_xor_distrib, BitVec.xor_assoc, BitVec.xor_comm (C >>> 1), ← BitVec.xor_assoc]
  · rw [if_neg hh, if_neg (fun x => hh (h.2 x)), BitVec.ushiftRight_xor_distrib]
theorem half_ofNat (c : Nat) (hc : c < 256) : (BitVec.ofNat 32 c : W32) >>> 1 = BitVec.ofNat 32 (c / 2) := by
  apply BitVec.eq_of_toNat_eq
  rw [BitVec.toNat_ushiftRight, BitVec.toNat_ofNat, BitVec.toNat_ofNat, Nat.shiftRight_eq_div_pow]
  omega
theorem toNat_small (c : Nat) (hc : c < 256) : (BitVec.ofNat 32 c : W32).toNat = c := by rw [BitVec.toNat_ofNat]; omega

set_option maxHeartbeats 800000 in
theorem rextend_any (s : W32) (A : Option Addr) (n c : Nat) (bs : List UInt8) (w : World) (hr : RdB w A n bs) (hn : n ≤ maxLen) :
    Calls Try.prog 97 #[.int .u32 (nv s), .slice A n c] w (RetW (.int .u32 (nv (~~~ crcReg (~~~ s) bs))) w) := by
  obtain rfl := hr.blen
  unfold maxLen at hn
  have HR := Lib.hid hr
  clear hr
  have hnot := bits_not32 s
  go_enter Try.func97, Try.ntmps97
  go_wp2
  go_loop [5, 6] (fun r i => ∃ (k : Nat) (x : W32), k ≤ bs.length ∧ i = .int .i64 k ∧ r = .int .u32 (nv x) ∧ Hid (x = crcReg (~~~ s) (bs.take k)))
    (fun _ i => bs.length - (intOf i).toNat)
  case atStart => exact ⟨0, ~~~ s, Nat.zero_le _, rfl, rfl, rfl⟩
  case round =>
    clear hnot
    obtain ⟨k, x, hk, rfl, rfl, hx⟩ := hrel
    by_cases hlt : k < bs.length
    · obtain ⟨ad, b, rfl, _, hb, hc⟩ := HR.out.byte hlt
      have hb8 := b.toNat_lt
      go_wp2
      go_loop [5, 7, 8] (fun r q i => ∃ (j z : Nat) (y : W32), j ≤ 8 ∧ i = .int .i64 j ∧ q = .int .u32 (z : Int) ∧ r = .int .u32 (nv y) ∧ z < 256 ∧ Hid (z = b.toNat / 2 ^ j ∧ crcBits j (crcIn x b) = y ^^^ BitVec.ofNat 32 z))
        (fun _ _ i => 8 - (intOf i).toNat)
      case atStart => exact ⟨0, b.toNat, x, Nat.zero_le _, rfl, rfl, rfl, by omega, by show _ ∧ _; exact ⟨by simp, rfl⟩⟩
      case round =>
        obtain ⟨j, z, y, hj, rfl, rfl, rfl, hz8, hy⟩ := hrel
        by_cases hj8 : j < 8
        · have m1 : (z : Int).tmod 2 = ((z % 2 : Nat) : Int) := by rw [Int.tmod_eq_emod_of_nonneg (by omega)]; simp
          have m2 : (z : Int).tdiv 2 = ((z / 2 : Nat) : Int) := by rw [Int.tdiv_eq_ediv_of_nonneg (by omega)]; simp
          obtain ⟨q, hq⟩ : ∃ q, q = z % 2 := ⟨_, rfl⟩
          obtain ⟨z2, hz2⟩ : ∃ z2, z2 = z / 2 := ⟨_, rfl⟩
          rw [← hq] at m1
          rw [← hz2] at m2
          have hz28 : z2 < 256 := by omega
          have HQ := Lib.hid hq
          have HZ2 := Lib.hid hz2
          have HZ8 : Hid (z < 256) := hz8
          clear hq hz2
          go_wp2_with (go_at_call 101; refine (turn_any y q _).mono ?_; rintro e w' ⟨rfl, rfl⟩)
          go_round
          case rel =>
            refine ⟨j + 1, z2, turnW y q, by omega, by go_num, rfl, rfl, hz28, ?_⟩
            show _ ∧ _
            obtain ⟨e1, e2⟩ := hy.out
            refine ⟨by rw [HZ2.out, e1, Nat.div_div_eq_div_mul, Nat.pow_succ], ?_⟩
            rw [crcBits_succ, e2, turn_step, toNat_small z HZ8.out, half_ofNat z HZ8.out, ← HQ.out, ← HZ2.out]
          case measure => simp [intOf]; omega
        · obtain rfl : j = 8 := by omega
          have HB8 : Hid (b.toNat < 256) := hb8
          go_wp2
          go_round
          case rel =>
            refine ⟨k + 1, y, by omega, by go_num, rfl, ?_⟩
            show _ = _
            obtain ⟨e1, e2⟩ := hy.out
            have hz0 : z = 0 := by rw [e1]; have := HB8.out; omega
            rw [hz0] at e2
            rw [crcReg_take hb.out, ← hx.out]
            show y = crcBits 8 (crcIn x b)
            rw [e2]; simp
          case measure => simp [intOf]; omega
    · obtain rfl : k = bs.length := by omega
      have hnot := bits_not32 x
      go_wp2
      go_ret
      have e := hx.out
      rw [List.take_length] at e
      subst e
      exact ⟨rfl, rfl⟩

theorem rsum_any (A : Option Addr) (n c : Nat) (bs : List UInt8) (w : World) (hr : RdB w A n bs) (hn : n ≤ maxLen) :
    Calls Try.prog 81 #[.slice A n c] w (RetW (.int .u32 (nv (crc bs))) w) := by
  have HR := Lib.hid hr
  have HN := Lib.hid hn
  clear hr hn
  have hE : ∀ w', RdB w' A n bs → Calls Try.prog 97 #[.int .u32 0, .slice A n c] w' (RetW (.int .u32 (nv (crc bs))) w') := fun w' h => by
    have h0 : (0 : Int) = nv 0#32 := by decide
    rw [h0]
    exact rextend_any 0#32 A n c bs w' h HN.out
  have HE := Lib.hid hE
  clear hE
  go_enter Try.func81, Try.ntmps81
  go_wp2_with (go_at_call 97; refine (HE.out _ HR.out).mono ?_; rintro e w' ⟨rfl, rfl⟩)
  go_ret
  exact ⟨rfl, rfl⟩
end Go.Proofs.Ytenommboacjopaa
