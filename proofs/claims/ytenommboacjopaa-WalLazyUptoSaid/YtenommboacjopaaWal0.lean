/- (wal.place).write by its contract. -/
import Derived.Test.YtenommboacjopaaDisk3
import Derived.Test.YtenommboacjopaaSeal
namespace Go.Proofs.Ytenommboacjopaa
open Go.RowKit

theorem le2_low {k : Nat} (hk : k < 256) : [Value.int .u8 (k : Int), .int .u8 ((k : Int) / 256)] = (leB k 2).map bv := by
  have h0 := byte_at (x := k) (k := 0)
  have h1 := byte_at (x := k) (k := 1)
  rw [leB_succ, leB_succ, leB_zero, List.nil_append, List.map_append, List.map_cons, List.map_nil, List.map_cons, List.map_nil, ← h0, ← h1]
  have e0 : (k : Int) / 2 ^ (8 * 0) % 256 = (k : Int) := by rw [show (2 : Int) ^ (8 * 0) = 1 from rfl]; omega
  have e1 : (k : Int) / 2 ^ (8 * 1) % 256 = (k : Int) / 256 := by rw [show (2 : Int) ^ (8 * 1) = 256 from rfl]; omega
  rw [e0, e1]
  rfl
theorem own_full (w : World) {base n : Nat} {e : TypeId} {cs : List Value} (hb : base ≤ w.heap.size) (hn : cs.length = n) (hm : n ≤ maxLen) (_h1 : ∀ u ∈ cs, u.oneCell' = true) :
    (w.alloc (.cells cs.toArray e)).ownsRow base e 1 (.slice (some ⟨w.heap.size, 0, none⟩) n n) n cs := by
  refine ⟨by omega, .inr ⟨w.heap.size, n, cs.toArray, rfl, hb, heap_alloc_new w _, Nat.le_refl _, hm, by simpa using hn, ?_⟩⟩
  subst hn
  simp

/-- The disk behind a write, whether or not there is power; what is answered. -/
def Dk.put (D : Dk) (k : Nat) (bs : List UInt8) : Dk := if D.dead then D else D.write k bs
def Dk.putZ (D : Dk) : Int := if D.dead then 10 else D.writeZ
/-- A sector of a log. -/
def lSec (size epoch k : Nat) (piece : List UInt8) : List UInt8 := sealB 87 epoch (leB k 2 ++ piece) (size - 4)
/-- A place as a value. -/
def placeV (b first count room epoch : Nat) : Value := .agg #[.pointer (some ⟨b, 0, none⟩), .int .i64 (first : Int), .int .i64 (count : Int), .int .i64 (room : Int), .int .u64 (epoch : Int)]

theorem Dk.put_size (D : Dk) (k : Nat) (bs : List UInt8) : (D.put k bs).size = D.size := by unfold Dk.put Dk.write; split <;> (try split) <;> rfl
theorem Dk.put_n (D : Dk) (k : Nat) (bs : List UInt8) : (D.put k bs).n = D.n := by unfold Dk.put Dk.write; split <;> (try split) <;> rfl
theorem Dk.put_wait (D : Dk) (k : Nat) (bs : List UInt8) : (D.put k bs).wait.length ≤ D.wait.length + 1 := by unfold Dk.put Dk.write; split <;> (try split) <;> simp

theorem write_all (w : World) (B b : Nat) (D : Dk) (M : DkM) (k n c : Nat) (A : Option Addr) (bs : List UInt8) (hd : DiskAt w B b D M) (hk : k < D.n) (hr : RdB w A n bs) (hn : n = D.size) (hcnt : D.wait.length + 1 ≤ 4398046511104) :
    Calls Try.prog 73 #[.pointer (some ⟨b, 0, none⟩), .int .i64 (k : Int), .slice A n c] w (RetStep (.int .i64 D.putZ) B b M (D.put k bs) w) := by
  rcases hdead : D.dead with _ | _
  · have h := write_any w B b D M k n c A bs hd hdead hk hr hn hcnt
    rw [show D.putZ = D.writeZ from by simp [Dk.putZ, hdead], show D.put k bs = D.write k bs from by simp [Dk.put, hdead]]
    exact h
  · have e1 : D.putZ = 10 := by simp [Dk.putZ, hdead]
    have e2 : D.put k bs = D := by simp [Dk.put, hdead]
    have HZ : Hid (readyZ D (k : Int) = 10) := by show _ = _; rw [readyZ, if_pos hdead]
    rw [e1, e2]
    have HD := Lib.hid hd
    clear hd e1 e2 hdead
    go_enter Try.func73, Try.ntmps73
    go_wp2_with (go_at_call 77; refine (ready_any _ B b D M _ HD.out).mono ?_; rw [HZ.out]; rintro e w' ⟨rfl, nq, rfl⟩)
    go_ret
    exact ⟨M, rfl, HD.out.drewN nq, (Only.refl _ _).drewN nq, fun _ h => .inl h⟩

set_option maxRecDepth 100000 in
set_option maxHeartbeats 2000000 in
theorem wput_any (w : World) (B b : Nat) (D : Dk) (M : DkM) (k n c first count room epoch : Nat) (A : Option Addr) (bs : List UInt8) (hd : DiskAt w B b D M) (hk : k < 64) (hf : first + k < D.n) (hr : RdB w A n bs) (hn : n + 17 ≤ D.size) (hcnt : D.wait.length + 1 ≤ 4398046511104) :
    Calls Try.prog 46 #[placeV b first count room epoch, .int .i64 (k : Int), .slice A n c] w (RetStep (.int .i64 D.putZ) B b M (D.put (first + k) (lSec D.size epoch k bs)) w) := by
  have HD := Lib.hid hd
  have HR := Lib.hid hr
  have HC := Lib.hid hcnt
  have hs1 := hd.ok.s1
  have hs2 := hd.ok.s2
  have hn2 := hd.ok.n2
  obtain ⟨m, hm⟩ : ∃ m, D.size = m + 4 := ⟨D.size - 4, by omega⟩
  have HS : Hid ((D.size : Int) = (m : Int) + 4) := by show _ = _; omega
  have HM := Lib.hid hm
  have HN : Hid (n + 2 + 11 ≤ m) := by show _ ≤ _; omega
  have H8 : Hid (m ≤ 8188) := by show _ ≤ _; omega
  have HA : Hid (wrap64 ((first : Int) + (k : Int)) = ((first + k : Nat) : Int)) := by show _ = _; rw [wrap64_in (by omega) (by omega)]; omega
  obtain ⟨i0, hi, hz0, hz1, hz2⟩ := info_parts infoU8
  have H1 : Hid (2 + n ≤ maxLen) := by show 2 + n ≤ _; unfold maxLen; omega
  have H2 : Hid ((2 + n) * 1 ≤ 140737488355328) := by show (2 + n) * 1 ≤ _; omega
  have HF : Hid (first + k < D.n) := hf
  clear hd hr hcnt hs1 hs2 hn2 hm hf hn
  unfold placeV
  go_enter Try.func46, Try.ntmps46
  go_wp2_with (first | (go_at_call 70; refine (shape_any _ B b D M (HD.out.below ((Below.refl _ _).alloc (Nat.le_refl _) _))).mono ?_; rintro e w' ⟨rfl, nq, rfl⟩) | (at_builtin; refine at_world_list ?_))
  intro W hW
  have HP : Hid (Blk W w.heap.size 95 #[.pointer (some ⟨b, 0, none⟩), .int .i64 (first : Int), .int .i64 (count : Int), .int .i64 (room : Int), .int .u64 (epoch : Int)]) := by rw [hW.out]; exact ((Blk.new _ _ _).drewN _).alloc _
  have HO : Hid (Below w.heap.size w W) := by rw [hW.out]; exact (below_drewN ((Below.refl _ w).alloc (Nat.le_refl _) _) _).alloc (by simp) _
  have HB : Hid (W.ownsRow w.heap.size 5 1 (.slice (some ⟨w.heap.size + 1, 0, none⟩) 2 2) 2 ((leB k 2).map bv)) := by
    rw [hW.out]
    have h := own_full (base := w.heap.size) (n := 2) (e := 5) (cs := (leB k 2).map bv) ((w.alloc (.cells #[.pointer (some ⟨b, 0, none⟩), .int .i64 (first : Int), .int .i64 (count : Int), .int .i64 (room : Int), .int .u64 (epoch : Int)] 95)).drewN nq) (by simp) (by simp [leB_length]) (by unfold maxLen; omega) (map_bv_one _)
    rw [← le2_low (by omega)] at h ⊢
    rw [World.heap_drewN, World.size_alloc] at h
    exact h
  have HRW : Hid (RdB W A n bs) := HR.out.below HO.out
  clear hW
  refine wpList_append_src rfl (.tmp 23) (.tmp 24) 36 rfl w.heap.size 5 i0 (.int .u8 0) 1 Try.underlying36 hi hz0 hz1 hz2 rfl _ 2 _ rfl HB.out A n c (bs.map bv) rfl HRW.out (map_bv_one _) H1.out H2.out HO.out.size ?_
  intro v1 W1 hown hg _
  have HP1 : Hid (Blk W1 w.heap.size 95 #[.pointer (some ⟨b, 0, none⟩), .int .i64 (first : Int), .int .i64 (count : Int), .int .i64 (room : Int), .int .u64 (epoch : Int)]) := HP.out.grown hg (fun e => by have e' : some w.heap.size = some (w.heap.size + 1) := e; injection e'; omega)
  have HO1 : Hid (Below w.heap.size w W1) := HO.out.grown hg HO.out.size (fun k hk => by have e : some (w.heap.size + 1) = some k := hk; injection e; omega)
  rw [← List.map_append] at hown
  obtain ⟨A', c', rfl⟩ := own_slice hown
  have HR1 : Hid (RdB W1 A' (2 + n) (leB k 2 ++ bs)) := Rd.of_own hown
  clear hg hown
  have p0 := HP1.out.at_ 0 rfl
  have p1 := HP1.out.at_ 1 rfl
  have p4 := HP1.out.at_ 4 rfl
  go_wp2_with fail
  rw [HS.out]
  refine (seal_any 87 epoch A' (2 + n) c' m (leB k 2 ++ bs) _ HR1.out H8.out (by have := HN.out; omega)).mono ?_
  rintro e W2 ⟨g, hge, rfl, hblk, hbel⟩
  have HL : Hid ((sealB 87 epoch (leB k 2 ++ bs) m).length = D.size) := by show _ = _; rw [sealB_length (by rw [HR1.out.blen]; have := HN.out; omega)]; exact HM.out.symm
  have HG : Hid (BlkB W2 g (lSec D.size epoch k bs)) := by
    have e : lSec D.size epoch k bs = sealB 87 epoch (leB k 2 ++ bs) m := by rw [lSec, HM.out]; rfl
    rw [e]; exact hblk
  rw [HL.out]
  have HLL : Hid ((lSec D.size epoch k bs).length = D.size) := by
    have e : lSec D.size epoch k bs = sealB 87 epoch (leB k 2 ++ bs) m := by rw [lSec, HM.out]; rfl
    show _ = _; rw [e]; exact HL.out
  have HO2 : Hid (Below w.heap.size w W2) := HO1.out.trans (hbel.mono HO1.out.size)
  have HP2 : Hid (Blk W2 w.heap.size 95 #[.pointer (some ⟨b, 0, none⟩), .int .i64 (first : Int), .int .i64 (count : Int), .int .i64 (room : Int), .int .u64 (epoch : Int)]) := HP1.out.below hbel HP1.out.lt
  have HD2 : Hid (DiskAt W2 B b D M) := HD.out.below HO2.out
  clear hbel hblk hge HP HO HB HRW HP1 HO1 HR1 HL p0 p1 p4
  have p0 := HP2.out.at_ 0 rfl
  have p1 := HP2.out.at_ 1 rfl
  go_wp2_with fail
  rw [HA.out]
  refine (write_all _ B b D M (first + k) D.size D.size _ _ HD2.out HF.out (by have h := HG.out.rdB (off := 0) (n := D.size) (by rw [HLL.out]; omega); rw [List.drop_zero, List.take_of_length_le (by rw [HLL.out]; omega)] at h; exact h) rfl HC.out).mono ?_
  rintro e W3 ⟨M', rfl, hd3, ho3, hf3⟩
  have HD3 := Lib.hid hd3
  have HO3 := Lib.hid ho3
  have HF3 := Lib.hid hf3
  clear hd3 ho3 hf3
  go_wp2
  go_ret
  refine ⟨M', rfl, HD3.out, (Only.of_below HO2.out).trans HO3.out (fun _ _ h => h), fun j hj => ?_⟩
  rcases HF3.out j hj with h | h
  · exact .inl h
  · exact .inr (Nat.le_trans HO2.out.size h)
end Go.Proofs.Ytenommboacjopaa
