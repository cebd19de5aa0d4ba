/- frame.Seal by its contract. -/
import Derived.Test.YtenommboacjopaaPut
namespace Go.Proofs.Ytenommboacjopaa
open Go.RowKit

/-- A frame is handed back, in a block of its own; nothing that lay is turned. -/
def RetSeal (w : World) (bs : List UInt8) (e : Ending) (w' : World) : Prop :=
  ∃ g, w.heap.size ≤ g ∧ e = .returned (.tuple #[.slice (some ⟨g, 0, none⟩) bs.length bs.length, .int .i64 0]) ∧ BlkB w' g bs ∧ Below w.heap.size w w'

theorem splice_at {P cs D S : List UInt8} {off : Nat} (hP : P.length = off) (hD : D.length = cs.length) : splice (P ++ (D ++ S)) off cs = P ++ (cs ++ S) := lay_at P cs D S off hP hD
theorem rep_add (a b : Nat) : List.replicate (a + b) (0 : UInt8) = List.replicate a 0 ++ List.replicate b 0 := by rw [List.replicate_append_replicate]
theorem chain_seal (kind : UInt8) (gen n : Nat) (body : List UInt8) (m : Nat) (hb : body.length = n) (h : n + 11 ≤ m) :
    splice (splice (splice (splice (List.replicate (m + 4) (0 : UInt8)) 0 [kind]) 1 (leB n 2)) 3 (leB gen 8)) 11 body = preB kind gen body m ++ List.replicate 4 0 := by
  have e0 : List.replicate (m + 4) (0 : UInt8) = [] ++ ([0] ++ (List.replicate 2 0 ++ (List.replicate 8 0 ++ (List.replicate n 0 ++ (List.replicate (m - 11 - n) 0 ++ List.replicate 4 0))))) := by
    rw [show [(0 : UInt8)] = List.replicate 1 0 from rfl]
    simp only [List.nil_append, ← rep_add]
    congr 1; omega
  rw [e0, splice_at (P := []) (off := 0) rfl (by simp)]
  have e1 : ([] : List UInt8) ++ ([kind] ++ (List.replicate 2 0 ++ (List.replicate 8 0 ++ (List.replicate n 0 ++ (List.replicate (m - 11 - n) 0 ++ List.replicate 4 0))))) =
    [kind] ++ (List.replicate 2 0 ++ (List.replicate 8 0 ++ (List.replicate n 0 ++ (List.replicate (m - 11 - n) 0 ++ List.replicate 4 0)))) := rfl
  rw [e1, splice_at (P := [kind]) (off := 1) rfl (by simp [leB_length]), ← List.append_assoc [kind], splice_at (P := [kind] ++ leB n 2) (off := 3) (by simp [leB_length]) (by simp [leB_length]), ← List.append_assoc ([kind] ++ leB n 2), splice_at (P := [kind] ++ leB n 2 ++ leB gen 8) (off := 11) (by simp [leB_length]) (by simp [hb])]
  simp [preB, hb]

set_option maxRecDepth 100000 in
set_option maxHeartbeats 1000000 in
/-- frame.Seal of a frame that fits. -/
theorem seal_any (kind : UInt8) (gen : Nat) (A : Option Addr) (n c m : Nat) (body : List UInt8) (w : World) (hr : RdB w A n body) (h8 : m ≤ 8188) (hn : n + 11 ≤ m) :
    Calls Try.prog 72 #[.agg #[.int .u8 (kind.toNat : Int), .int .u64 (gen : Int), .slice A n c], .int .i64 ((m : Int) + 4)] w (RetSeal w (sealB kind gen body m)) := by
  have HR := Lib.hid hr
  clear hr
  have hroom : Hid (roomZ ((m : Int) + 4) = (m : Int) - 11) := by show _ = _; rw [roomZ, if_pos (by omega)]; omega
  obtain ⟨i0, hi, hz0, hz1, hz2⟩ := info_parts infoU8
  have H1 : Hid (1 * (m + 4) ≤ 281474976710656) := by show 1 * (m + 4) ≤ _; omega
  have H2 : Hid (m + 4 ≤ maxLen) := by show m + 4 ≤ _; unfold maxLen; omega
  go_enter Try.func72, Try.ntmps72
  go_wp2
  go_quiet ((go_at_call 71; exact Calls.quiet_of_same ((room_any _ _ (by omega)).mono fun _ _ h => ⟨h.1, h.2.symm⟩)))
  rw [hroom.out]
  go_wp2_with (at_make; refine wpList_make_row _ rfl (.tmp 20) (.tmp 20) 36 rfl 5 i0 (.int .u8 0) 1 Try.underlying36 hi hz0 hz1 hz2 rfl .i64 .i64 ((m : Int) + 4) ((m : Int) + 4) (m + 4) rfl rfl rfl rfl H1.out H2.out ?_; refine at_world_list ?_)
  intro W hW
  have HF : Hid (Blk W w.heap.size 116 #[.int .u8 (kind.toNat : Int), .int .u64 (gen : Int), .slice A n c]) := by rw [hW.out]; exact ((Blk.new _ _ _).drewN _).alloc _
  have HZ : Hid (BlkB W (w.heap.size + 1) (List.replicate (m + 4) 0)) := by
    rw [hW.out]
    have h := BlkB.zeros ((w.alloc (.cells #[.int .u8 (kind.toNat : Int), .int .u64 (gen : Int), .slice A n c] 116)).drewN nq) (m + 4)
    rw [World.heap_drewN, World.size_alloc] at h
    exact h
  have HO : Hid (Below w.heap.size w W) := by rw [hW.out]; exact (below_drewN ((Below.refl _ w).alloc (Nat.le_refl _) _) _).alloc (by simp) _
  clear hW
  have c0 := HF.out.at_ 0 rfl
  have z0 := HZ.out.bcell (i := 0) (by simp)
  have f0 := HZ.out.frozen 0
  go_wp2
  refine still_tail 6 (by kernel_rfl) (by kernel_rfl) ?_
  intro W2 hW2
  have HF2 : Hid (Blk W2 w.heap.size 116 #[.int .u8 (kind.toNat : Int), .int .u64 (gen : Int), .slice A n c]) := by rw [hW2.out]; exact HF.out.far (by simp) _
  have HZ2 : Hid (BlkB W2 (w.heap.size + 1) (splice (List.replicate (m + 4) 0) 0 [kind])) := by
    rw [hW2.out]
    have h := BlkB.setB (b := kind) (off := 0) (cs := []) (by rw [splice_nil]; exact HZ.out) (by simp)
    exact h
  have HO2 : Hid (Below w.heap.size w W2) := by rw [hW2.out]; exact (HO.out.setCell (p := ⟨w.heap.size + 1, 0, none⟩) (by simp) _).drew
  clear hW2 c0 z0 f0 HF HZ HO
  have c2 := HF2.out.at_ 2 rfl
  have L1 : Hid ((splice (List.replicate (m + 4) (0 : UInt8)) 0 [kind]).length = m + 4) := by show _ = _; rw [splice_len (by simp)]; simp
  have hs1 : (1 : Int) ≤ (m : Int) + 4 := by omega
  have hs2 : ¬ m + 4 = 1 := by omega
  simp only [List.take_succ_cons, List.take_zero, List.drop_succ_cons, List.drop_zero]
  repeat still_step
  refine wpStill_nil ?_
  go_wp2_with fail
  refine (put_any (w.heap.size + 1) 1 (m + 3) (m + 3) 2 n _ _ HZ2.out (by omega) (by rw [L1.out]; omega) (by omega) (by omega)).mono ?_
  rintro e W3 ⟨rfl, hz, ho⟩
  have HF3 : Hid (Blk W3 w.heap.size 116 #[.int .u8 (kind.toNat : Int), .int .u64 (gen : Int), .slice A n c]) := HF2.out.only ho (by simp)
  have HZ3 := Lib.hid hz
  have HO3 : Hid (Below w.heap.size w W3) := HO2.out.trans (ho.below (by rintro k rfl; omega) HO2.out.size)
  have L2 : Hid ((splice (splice (List.replicate (m + 4) (0 : UInt8)) 0 [kind]) 1 (leB n 2)).length = m + 4) := by show _ = _; rw [splice_len (by rw [leB_length, L1.out]; omega), L1.out]
  clear hz ho HF2 HZ2 HO2 c2 hs1 hs2
  go_wp2
  refine still_tail 4 (by kernel_rfl) (by kernel_rfl) ?_
  intro W4 hW4
  have HF4 : Hid (Blk W4 w.heap.size 116 #[.int .u8 (kind.toNat : Int), .int .u64 (gen : Int), .slice A n c]) := by rw [hW4.out]; exact HF3.out
  have HZ4 : Hid (BlkB W4 (w.heap.size + 1) (splice (splice (List.replicate (m + 4) (0 : UInt8)) 0 [kind]) 1 (leB n 2))) := by rw [hW4.out]; exact HZ3.out
  have HO4 : Hid (Below w.heap.size w W4) := by rw [hW4.out]; exact HO3.out.drew
  clear hW4 HF3 HZ3 HO3
  have c1 := HF4.out.at_ 1 rfl
  have hs1 : (3 : Int) ≤ (m : Int) + 4 := by omega
  have hs2 : ¬ m + 4 = 3 := by omega
  simp only [List.take_succ_cons, List.take_zero, List.drop_succ_cons, List.drop_zero]
  repeat still_step
  refine wpStill_nil ?_
  go_wp2_with fail
  refine (put_any (w.heap.size + 1) 3 (m + 1) (m + 1) 8 gen _ _ HZ4.out (by omega) (by rw [L2.out]; omega) (by omega) (by omega)).mono ?_
  rintro e W5 ⟨rfl, hz, ho⟩
  have HF5 : Hid (Blk W5 w.heap.size 116 #[.int .u8 (kind.toNat : Int), .int .u64 (gen : Int), .slice A n c]) := HF4.out.only ho (by simp)
  have HZ5 := Lib.hid hz
  have HO5 : Hid (Below w.heap.size w W5) := HO4.out.trans (ho.below (by rintro k rfl; omega) HO4.out.size)
  have L3 : Hid ((splice (splice (splice (List.replicate (m + 4) (0 : UInt8)) 0 [kind]) 1 (leB n 2)) 3 (leB gen 8)).length = m + 4) := by show _ = _; rw [splice_len (by rw [leB_length, L2.out]; omega), L2.out]
  clear hz ho HF4 HZ4 HO4 c1 hs1 hs2
  go_wp2
  refine still_tail 4 (by kernel_rfl) (by kernel_rfl) ?_
  intro W6 hW6
  have HF6 : Hid (Blk W6 w.heap.size 116 #[.int .u8 (kind.toNat : Int), .int .u64 (gen : Int), .slice A n c]) := by rw [hW6.out]; exact HF5.out
  have HZ6 : Hid (BlkB W6 (w.heap.size + 1) (splice (splice (splice (List.replicate (m + 4) (0 : UInt8)) 0 [kind]) 1 (leB n 2)) 3 (leB gen 8))) := by rw [hW6.out]; exact HZ5.out
  have HO6 : Hid (Below w.heap.size w W6) := by rw [hW6.out]; exact HO5.out.drew
  have HR6 : Hid (RdB W6 A n body) := HR.out.below HO6.out
  clear hW6 HF5 HZ5 HO5
  have c2 := HF6.out.at_ 2 rfl
  have hs1 : (11 : Int) ≤ (m : Int) + 4 := by omega
  have hs2 : ¬ m + 4 = 11 := by omega
  simp only [List.take_succ_cons, List.take_zero, List.drop_succ_cons, List.drop_zero]
  repeat still_step
  refine wpStill_nil ?_
  refine wpList_copy_bytes rfl (.tmp 39) (.tmp 41) rfl (w.heap.size + 1) 11 (m - 7) (m - 7) A n c _ body rfl rfl HZ6.out HR6.out (by omega) (by rw [L3.out]; omega) ?_
  intro W7 hz ho
  have HZ7 := Lib.hid hz
  have HO7 : Hid (Below w.heap.size w W7) := HO6.out.trans (ho.below (by rintro k rfl; omega) HO6.out.size)
  have L4 : Hid ((splice (splice (splice (splice (List.replicate (m + 4) (0 : UInt8)) 0 [kind]) 1 (leB n 2)) 3 (leB gen 8)) 11 body).length = m + 4) := by show _ = _; rw [splice_len (by rw [HR6.out.blen, L3.out]; omega), L3.out]
  generalize hZ : splice (splice (splice (splice (List.replicate (m + 4) (0 : UInt8)) 0 [kind]) 1 (leB n 2)) 3 (leB gen 8)) 11 body = Z at HZ7 L4
  have HZdef := Lib.hid hZ
  clear hz ho HF6 HZ6 HO6 HR6 c2 hs1 hs2 hZ L1 L2 L3
  go_wp2
  have hs1 : (m : Int) ≤ (m : Int) + 4 := by omega
  have hs2 : ¬ m + 4 = m := by omega
  have hs3 : (0 : Int) ≤ (m : Int) := by omega
  refine still_tail 8 (by kernel_rfl) (by kernel_rfl) ?_
  intro W8 hW8
  have HZ8 : Hid (BlkB W8 (w.heap.size + 1) Z) := by rw [hW8.out]; exact HZ7.out
  have HO8 : Hid (Below w.heap.size w W8) := by rw [hW8.out]; exact HO7.out.drew
  have HS : Hid (RdB W8 (some ⟨w.heap.size + 1, 0, none⟩) m (Z.take m)) := by
    have h := HZ8.out.rdB (off := 0) (n := m) (by rw [L4.out]; omega)
    exact h
  clear hW8 HZ7 HO7
  simp only [List.take_succ_cons, List.take_zero, List.drop_succ_cons, List.drop_zero]
  have hnv := nv_u64 (crc (Z.take m))
  repeat still_step
  still_call (((sum_any _ m (m + 4) (Z.take m) _ HS.out (by unfold maxLen; omega)).mono fun _ _ h => ⟨h.1, h.2.symm⟩))
  still_step
  refine wpStill_nil ?_
  go_wp2_with fail
  refine (put_any (w.heap.size + 1) m 4 4 4 _ _ _ HZ8.out (by omega) (by rw [L4.out]; omega) (by omega) (by omega)).mono ?_
  rintro e W9 ⟨rfl, hz, ho⟩
  have HZ9 := Lib.hid hz
  have HO9 : Hid (Below w.heap.size w W9) := HO8.out.trans (ho.below (by rintro k rfl; omega) HO8.out.size)
  clear hz ho hs1 hs2 hs3 hnv HS HZ8 HO8
  go_wp2
  go_ret2
  have hb := HR.out.blen
  have e1 : Z = preB kind gen body m ++ List.replicate 4 0 := by rw [← HZdef.out]; exact chain_seal kind gen n body m hb hn
  have hp : (preB kind gen body m).length = m := preB_length (by omega)
  have e2 : splice Z m (leB (crc (Z.take m)).toNat 4) = sealB kind gen body m := by
    rw [e1]
    have e3 : (preB kind gen body m ++ List.replicate 4 (0 : UInt8)).take m = preB kind gen body m := by rw [← hp]; simp [hp]
    rw [e3]
    have h := splice_at (P := preB kind gen body m) (cs := leB (crc (preB kind gen body m)).toNat 4) (D := List.replicate 4 0) (S := []) (off := m) hp (by simp [leB_length])
    rw [List.append_nil, List.append_nil] at h
    exact h
  refine ⟨w.heap.size + 1, by omega, ?_, by rw [← e2]; exact HZ9.out, HO9.out⟩
  rw [sealB_length (by omega)]
  rfl
end Go.Proofs.Ytenommboacjopaa
