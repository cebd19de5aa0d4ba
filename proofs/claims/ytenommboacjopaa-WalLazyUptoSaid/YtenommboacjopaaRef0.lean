/- The document's own numbers: arborref2.low, IsSize, Room; arborref0.AddU16, by their contracts. -/
import Derived.Test.YtenommboacjopaaWal3
namespace Go.Proofs.Ytenommboacjopaa
open Go.RowKit

/-- A row of bytes that the call may have grown where it lay. -/
def RetGrow (base : Nat) (v : Value) (bs : List UInt8) (w : World) (e : Ending) (w' : World) : Prop :=
  ∃ A c, e = .returned (.slice A bs.length c) ∧ w'.ownsRow base 5 1 (.slice A bs.length c) bs.length (bs.map bv) ∧ Only (fun k => v.ownBlock = some k) w w' ∧ ∀ k, (Value.slice A bs.length c).ownBlock = some k → v.ownBlock = some k ∨ w.heap.size ≤ k

theorem issize_any (s : Int) (w : World) : Calls Try.prog 78 #[.int .i64 s] w (RetW (.bool (decide (15 ≤ s ∧ s ≤ 8192))) w) := by
  go_enter Try.func78, Try.ntmps78
  by_cases h1 : 15 ≤ s
  · by_cases h2 : s ≤ 8192
    · go_wp2
      all_goals go_ret
      all_goals exact ⟨by simp [h1, h2], rfl⟩
    · go_wp2
      all_goals go_ret
      all_goals exact ⟨by simp [h2], rfl⟩
  · go_wp2
    all_goals go_ret
    all_goals exact ⟨by simp; omega, rfl⟩

theorem rroom_any (m : Nat) (w : World) (h1 : 11 ≤ m) (h2 : m ≤ 8188) : Calls Try.prog 79 #[.int .i64 ((m : Int) + 4)] w (RetW (.int .i64 ((m : Int) - 11)) w) := by
  have hd : decide ((15 : Int) ≤ (m : Int) + 4 ∧ (m : Int) + 4 ≤ 8192) = true := by simp; omega
  have HD := Lib.hid hd
  clear hd
  go_enter Try.func79, Try.ntmps79
  go_wp2_with (go_at_call 78; refine (issize_any _ _).mono ?_; rw [HD.out]; rintro e w' ⟨rfl, rfl⟩)
  go_ret
  exact ⟨by show Ending.returned (Value.int _ _) = _; congr 2; omega, rfl⟩

theorem rd_one (w : World) (x : Int) : Rd (w.alloc (.cells #[.int .u8 x] 5)) (some ⟨w.heap.size, 0, none⟩) 1 [.int .u8 x] :=
  Rd.of_blk (Blk.new w 5 #[.int .u8 x]) rfl rfl
theorem two_snoc {bs : List UInt8} {k : Nat} (hk : k < 65536) : bs.map bv ++ [Value.int .u8 ((k : Int) % 256), Value.int .u8 ((k : Int) / 256)] = (bs ++ leB k 2).map bv := by
  rw [List.map_append, ← le2_mod hk]

set_option maxRecDepth 100000 in
set_option maxHeartbeats 400000 in
theorem addu16_any (base : Nat) (v : Value) (bs : List UInt8) (k : Nat) (w : World) (hv : w.ownsRow base 5 1 v bs.length (bs.map bv)) (hb : base ≤ w.heap.size) (hk : k < 65536) (hl : bs.length ≤ 1000000000) :
    Calls Try.prog 52 #[v, .int .i64 (k : Int)] w (RetGrow base v (bs ++ leB k 2) w) := by
  obtain ⟨A, c, rfl⟩ := own_slice hv
  obtain ⟨i0, hi, hz0, hz1, hz2⟩ := info_parts infoU8
  have HV := Lib.hid hv
  have m1 : (k : Int).tmod 256 = (k : Int) % 256 := Int.tmod_eq_emod_of_nonneg (by omega)
  have m2 : (k : Int).tdiv 256 = (k : Int) / 256 := Int.tdiv_eq_ediv_of_nonneg (by omega)
  have m3 : ((k : Int) / 256).tmod 256 = (k : Int) / 256 := by rw [Int.tmod_eq_emod_of_nonneg (by omega)]; omega
  have H1 : Hid (bs.length + 1 ≤ maxLen) := by show _ ≤ _; unfold maxLen; omega
  have H2 : Hid ((bs.length + 1) * 1 ≤ 140737488355328) := by show _ ≤ _; omega
  have H3 : Hid (bs.length + 1 + 1 ≤ maxLen) := by show _ ≤ _; unfold maxLen; omega
  have H4 : Hid ((bs.length + 1 + 1) * 1 ≤ 140737488355328) := by show _ ≤ _; omega
  have HLE : Hid ((bs ++ leB k 2).length = bs.length + 1 + 1) := by show _ = _; rw [List.length_append, leB_length]
  have HK : Hid (k < 65536) := hk
  clear hv
  go_enter Try.func52, Try.ntmps52
  go_wp2_with (at_builtin; refine wpList_append_src rfl (.tmp 5) (.tmp 9) 36 rfl base 5 i0 (.int .u8 0) 1 Try.underlying36 hi hz0 hz1 hz2 rfl _ bs.length (bs.map bv) rfl (HV.out.alloc _) _ 1 1 _ rfl (rd_one w ((k : Int) % 256)) (fun u hu => by simp at hu; subst hu; rfl) H1.out H2.out (by simp; omega) ?_)
  intro v1 w1 hown1 hg1 hat1
  obtain ⟨A1, c1, rfl⟩ := own_slice hown1
  have HO1 := Lib.hid hown1
  have HG1 := Lib.hid hg1
  have HA1 := Lib.hid hat1
  have hb1 : base ≤ w1.heap.size := by have := hg1.size; simp at this; omega
  clear hown1 hg1 hat1
  go_wp2_with (at_builtin; refine wpList_append_src rfl (.tmp 11) (.tmp 16) 36 rfl base 5 i0 (.int .u8 0) 1 Try.underlying36 hi hz0 hz1 hz2 rfl _ (bs.length + 1) _ rfl (HO1.out.alloc _) _ 1 1 _ rfl (rd_one w1 ((k : Int) / 256)) (fun u hu => by simp at hu; subst hu; rfl) H3.out H4.out (by simp; omega) ?_)
  intro v2 w2 hown2 hg2 hat2
  try rw [List.append_assoc, List.singleton_append] at hown2
  rw [two_snoc HK.out] at hown2
  obtain ⟨A2, c2, rfl⟩ := own_slice hown2
  have HO2 := Lib.hid hown2
  have HG2 := Lib.hid hg2
  have HA2 := Lib.hid hat2
  clear hown2 hg2 hat2
  go_wp2
  go_ret
  have hs1 := HG1.out.size
  simp at hs1
  refine ⟨A2, c2, by rw [HLE.out]; rfl, by rw [HLE.out]; exact HO2.out, ?_, ?_⟩
  · refine (((Only.refl _ w).alloc _).grown HG1.out (fun k e _ => e)).alloc _ |>.grown HG2.out (fun k e hk => ?_)
    rcases HA1.out with h | h
    · exact h.symm.trans (show _ = some k from e)
    · have : some (w.heap.size + 1) = some k := h.symm.trans (show _ = some k from e)
      injection this; omega
  · rw [HLE.out]
    intro k hk
    rcases HA2.out with h | h
    · rcases HA1.out with h1 | h1
      · exact .inl (h1.symm.trans (h.symm.trans hk))
      · have : some (w.heap.size + 1) = some k := h1.symm.trans (h.symm.trans hk)
        injection this; exact .inr (by omega)
    · have : some (w1.heap.size + 1) = some k := h.symm.trans hk
      injection this; exact .inr (by omega)

set_option maxRecDepth 100000 in
set_option maxHeartbeats 800000 in
theorem low_any (x n : Nat) (w : World) (hn : n ≤ 8) (hx : x < 18446744073709551616) : Calls Try.prog 80 #[.int .u64 (x : Int), .int .i64 (n : Int)] w (RetB w (leB x n)) := by
  obtain ⟨i0, hi, hz0, hz1, hz2⟩ := info_parts infoU8
  have HX := Lib.hid hx
  clear hx
  go_enter Try.func80, Try.ntmps80
  go_wp2
  go_loopw [0, 5, 6] (fun y b i wr => ∃ (k : Nat), k ≤ n ∧ y = .int .u64 ((x / 256 ^ k : Nat) : Int) ∧ i = .int .i64 (k : Int) ∧ wr.ownsRow w.heap.size 5 1 b k ((leB x k).map bv) ∧ Below w.heap.size w wr) (fun _ _ i _ => n - (intOf i).toNat)
  case atStart => exact ⟨0, Nat.zero_le _, by simp, rfl, World.ownsRow_nil _ _ _ _, Below.refl _ _⟩
  case round =>
    obtain ⟨k, hk, rfl, rfl, hown, hb⟩ := hrel
    obtain ⟨A, c, rfl⟩ := own_slice hown
    have HO := Lib.hid hown
    have HB := Lib.hid hb
    have hsz := hb.size
    clear hown hb
    obtain ⟨z, hz⟩ : ∃ z, z = x / 256 ^ k := ⟨_, rfl⟩
    have hz8 : z < 18446744073709551616 := by have := HX.out; have h := Nat.div_le_self x (256 ^ k); omega
    rw [← hz]
    have HZ := Lib.hid hz
    clear hz
    by_cases hlt : k < n
    · have H1 : Hid (k + 1 ≤ maxLen) := by show _ ≤ _; unfold maxLen; omega
      have H2 : Hid ((k + 1) * 1 ≤ 140737488355328) := by show _ ≤ _; omega
      have m1 : (z : Int).tmod 256 = (z : Int) % 256 := Int.tmod_eq_emod_of_nonneg (by omega)
      have m2 : (z : Int).tdiv 256 = (z : Int) / 256 := Int.tdiv_eq_ediv_of_nonneg (by omega)
      go_wp2_with (at_builtin; refine wpList_append_src rfl (.tmp 12) (.tmp 16) 36 rfl w.heap.size 5 i0 (.int .u8 0) 1 Try.underlying36 hi hz0 hz1 hz2 rfl _ k _ rfl (HO.out.alloc _) _ 1 1 _ rfl (rd_one wr ((z : Int) % 256)) (fun u hu => by simp at hu; subst hu; rfl) H1.out H2.out (by simp; omega) ?_)
      intro v1 w1 hown1 hg1 hat1
      have HB1 : Hid (Below w.heap.size w w1) := (HB.out.alloc hsz _).grown hg1 (by simp; omega) (fun g e => (HO.out.lt g e).1)
      have HO1 : Hid (w1.ownsRow w.heap.size 5 1 v1 (k + 1) ((leB x (k + 1)).map bv)) := by
        rw [leB_succ, List.map_append, List.map_cons, List.map_nil, ← byte_at]
        have e : (x : Int) / 2 ^ (8 * k) % 256 = (z : Int) % 256 := by
          rw [HZ.out, Int.natCast_ediv, Int.natCast_pow, Int.pow_mul]; rfl
        rw [e]
        exact hown1
      clear hown1 hg1 hat1
      go_wp2
      go_roundw
      case rel =>
        refine ⟨k + 1, by omega, ?_, by go_num, HO1.out, HB1.out⟩
        rw [Nat.pow_succ, ← Nat.div_div_eq_div_mul, ← HZ.out]
        first | rfl | go_num
      case measure => simp [intOf]; omega
    · obtain rfl : k = n := by omega
      go_wp2
      go_ret
      exact ⟨A, c, by rw [leB_length]; rfl, by rw [leB_length]; exact HO.out, HB.out⟩
end Go.Proofs.Ytenommboacjopaa
