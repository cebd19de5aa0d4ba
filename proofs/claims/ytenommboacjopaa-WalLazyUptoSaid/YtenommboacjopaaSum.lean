/- frame.Extend, frame.Sum, frame.Room by their contracts. -/
import Derived.Test.YtenommboacjopaaCopy
import Derived.Test.YtenommboacjopaaPlain
import Derived.Laws.BitsAllLaws
namespace Go.Proofs.Ytenommboacjopaa
open Go.RowKit

/-- A 32-bit register as a number, behind a name that the walk leaves alone. -/
def nv (x : W32) : Int := (x.toNat : Int)
theorem nv_nonneg (x : W32) : 0 ≤ nv x := by unfold nv; omega
theorem nv_lt (x : W32) : nv x < 4294967296 := by unfold nv; have := x.isLt; omega
theorem ofInt_w32 (x : W32) : BitVec.ofInt 32 (x.toNat : Int) = x := by rw [BitVec.ofInt_natCast, BitVec.ofNat_toNat, BitVec.setWidth_eq]
theorem wrap_w32 (x : W32) : IntKind.u32.wrap (x.toNat : Int) = (x.toNat : Int) := by rw [IntKind.wrap_u32']; have := x.isLt; omega
theorem bits_xor32 (x y : W32) : bits .xor .u32 (nv x) (nv y) = nv (x ^^^ y) := by
  show IntKind.u32.wrap ((BitVec.ofInt 32 (x.toNat : Int) ^^^ BitVec.ofInt 32 (y.toNat : Int)).toNat : Int) = _
  rw [ofInt_w32, ofInt_w32, wrap_w32]; rfl
theorem bits_and32 (x y : W32) : bits .and .u32 (nv x) (nv y) = nv (x &&& y) := by
  show IntKind.u32.wrap ((BitVec.ofInt 32 (x.toNat : Int) &&& BitVec.ofInt 32 (y.toNat : Int)).toNat : Int) = _
  rw [ofInt_w32, ofInt_w32, wrap_w32]; rfl
theorem bits_not32 (x : W32) : bits .xor .u32 IntKind.u32.max (nv x) = nv (~~~ x) := by
  have h : IntKind.u32.max = nv (BitVec.allOnes 32) := by decide
  rw [h, bits_xor32, BitVec.allOnes_xor]
theorem nv_u64 (x : W32) : IntKind.u64.wrap (nv x) = (x.toNat : Int) := by rw [IntKind.wrap_u64]; unfold nv; have := x.isLt; omega
theorem bits_and1 (x : W32) : bits .and .u32 (nv x) 1 = ((x.toNat % 2 : Nat) : Int) := by
  have h : (1 : Int) = nv (1#32) := by decide
  rw [h, bits_and32]
  unfold nv
  rw [BitVec.toNat_and]
  show ((x.toNat &&& 1 : Nat) : Int) = _
  rw [Nat.and_one_is_mod]
theorem half32 (x : W32) : nv x / (2 : Int) = nv (x >>> 1) := by
  unfold nv
  rw [BitVec.toNat_ushiftRight, Nat.shiftRight_eq_div_pow]; omega
theorem bits_poly (x : W32) : bits .xor .u32 (nv (x >>> 1)) 3988292384 = nv ((x >>> 1) ^^^ poly) := by
  have h : (3988292384 : Int) = nv poly := by decide
  rw [h, bits_xor32]
theorem bits_in (x : W32) (b : UInt8) : bits .xor .u32 (nv x) (b.toNat : Int) = nv (crcIn x b) := by
  have hb := b.toNat_lt
  have h : (b.toNat : Int) = nv (BitVec.ofNat 32 b.toNat : W32) := by unfold nv; rw [BitVec.toNat_ofNat]; omega
  rw [h, bits_xor32]; rfl

set_option maxHeartbeats 400000 in
theorem extend_any (s : W32) (A : Option Addr) (n c : Nat) (bs : List UInt8) (w : World) (hr : RdB w A n bs) (hn : n ≤ maxLen) :
    Calls Try.prog 98 #[.int .u32 (nv s), .slice A n c] w (RetW (.int .u32 (nv (~~~ crcReg (~~~ s) bs))) w) := by
  obtain rfl := hr.blen
  unfold maxLen at hn
  have HR := Lib.hid hr
  clear hr
  have hnot := bits_not32 s
  go_enter Try.func98, Try.ntmps98
  go_wp2
  go_loop [5, 12] (fun r i => ∃ (k : Nat) (x : W32), k ≤ bs.length ∧ i = .int .i64 k ∧ r = .int .u32 (nv x) ∧ Hid (x = crcReg (~~~ s) (bs.take k)))
    (fun _ i => bs.length - (intOf i).toNat)
  case atStart => exact ⟨0, ~~~ s, Nat.zero_le _, rfl, rfl, rfl⟩
  case round =>
    clear hnot
    obtain ⟨k, x, hk, rfl, rfl, hx⟩ := hrel
    by_cases hlt : k < bs.length
    · obtain ⟨ad, b, rfl, _, hb, hc⟩ := HR.out.byte hlt
      have hb8 := b.toNat_lt
      have hin := bits_in x b
      have h32 := nv_lt (crcIn x b)
      have h33 := nv_nonneg (crcIn x b)
      go_wp2
      go_loop [5, 20] (fun r i => ∃ (j : Nat) (y : W32), j ≤ 8 ∧ i = .int .i64 j ∧ r = .int .u32 (nv y) ∧ Hid (y = crcBits j (crcIn x b)))
        (fun _ i => 8 - (intOf i).toNat)
      case atStart => exact ⟨0, crcIn x b, Nat.zero_le _, rfl, rfl, rfl⟩
      case round =>
        clear hin h32 h33
        obtain ⟨j, y, hj, rfl, rfl, hy⟩ := hrel
        by_cases hj8 : j < 8
        · have h1 := bits_and1 y
          have h3 : bits .xor .u32 (nv y / 2) 3988292384 = nv ((y >>> 1) ^^^ poly) := by rw [half32, bits_poly]
          by_cases hp : y.toNat % 2 = 1
          · have hp' : bits .and .u32 (nv y) 1 = 1 := by rw [bits_and1, hp]; rfl
            have HP := Lib.hid hp
            clear hp
            go_wp2
            go_round
            case rel => exact ⟨j + 1, _, by omega, by go_num, rfl, by show _ = _; rw [crcBits_succ, ← hy.out, crcBit, if_pos HP.out]⟩
            case measure => simp [intOf]; omega
          · have hp' : bits .and .u32 (nv y) 1 = 0 := by rw [bits_and1, show y.toNat % 2 = 0 from by omega]; rfl
            have HP := Lib.hid hp
            clear hp
            go_wp2
            go_round
            case rel => exact ⟨j + 1, _, by omega, by go_num, congrArg (Value.int .u32) (half32 y), by show _ = _; rw [crcBits_succ, ← hy.out, crcBit, if_neg HP.out]⟩
            case measure => simp [intOf]; omega
        · obtain rfl : j = 8 := by omega
          go_wp2
          go_round
          case rel => exact ⟨k + 1, y, by omega, by go_num, rfl, by show _ = _; rw [crcReg_take hb.out, ← hx.out]; exact hy.out⟩
          case measure => simp [intOf]; omega
    · obtain rfl : k = bs.length := by omega
      have hnot := bits_not32 x
      go_wp2
      go_ret
      have e := hx.out
      rw [List.take_length] at e
      subst e
      exact ⟨rfl, rfl⟩

theorem extend_zero (A : Option Addr) (n c : Nat) (bs : List UInt8) (w : World) (hr : RdB w A n bs) (hn : n ≤ maxLen) :
    Calls Try.prog 98 #[.int .u32 0, .slice A n c] w (RetW (.int .u32 (nv (crc bs))) w) := by
  have h : (0 : Int) = nv 0#32 := by decide
  rw [h]
  exact extend_any 0#32 A n c bs w hr hn

set_option maxHeartbeats 400000 in
/-- frame.Sum. -/
theorem sum_any (A : Option Addr) (n c : Nat) (bs : List UInt8) (w : World) (hr : RdB w A n bs) (hn : n ≤ maxLen) :
    Calls Try.prog 93 #[.slice A n c] w (RetW (.int .u32 (nv (crc bs))) w) := by
  have HR := Lib.hid hr
  have HN := Lib.hid hn
  clear hr hn
  go_enter Try.func93, Try.ntmps93
  go_wp2_with (go_at_call 98; refine (extend_zero _ _ _ bs _ HR.out HN.out).mono ?_; rintro e w' ⟨rfl, rfl⟩)
  go_ret
  exact ⟨rfl, rfl⟩

/-- The room of a frame of so many bytes. -/
def roomZ (n : Int) : Int := if 15 ≤ n ∧ n ≤ 8192 then n - 15 else 0

set_option maxHeartbeats 400000 in
/-- frame.Room. -/
theorem room_any (n : Int) (w : World) (h0 : -9223372036854775808 ≤ n) : Calls Try.prog 71 #[.int .i64 n] w (RetW (.int .i64 (roomZ n)) w) := by
  have H0 := Lib.hid h0
  clear h0
  by_cases h1 : n < 15
  · go_enter Try.func71, Try.ntmps71
    go_wp2
    all_goals go_ret
    all_goals exact ⟨by rw [roomZ, if_neg (by omega)]; rfl, rfl⟩
  · by_cases h2 : 8192 < n
    · go_enter Try.func71, Try.ntmps71
      go_wp2
      all_goals go_ret
      all_goals exact ⟨by rw [roomZ, if_neg (by omega)]; rfl, rfl⟩
    · go_enter Try.func71, Try.ntmps71
      go_wp2
      all_goals go_ret
      all_goals exact ⟨by rw [roomZ, if_pos (by omega)]; rfl, rfl⟩
end Go.Proofs.Ytenommboacjopaa
