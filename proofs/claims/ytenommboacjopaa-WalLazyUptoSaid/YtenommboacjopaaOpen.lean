/- frame.Open by its contract. -/
import Derived.Test.YtenommboacjopaaSeal
namespace Go.Proofs.Ytenommboacjopaa
open Go.RowKit

/-- What frame.Open hands back. -/
def RetOpen (w : World) (r : Option (UInt8 × Nat × List UInt8)) (e : Ending) (w' : World) : Prop :=
  Below w.heap.size w w' ∧ match r with
  | none => e = .returned (.tuple #[.agg #[.int .u8 0, .int .u64 0, .slice none 0 0], .int .i64 20])
  | some (k, g, b) => ∃ blk, w.heap.size ≤ blk ∧ BlkB w' blk b ∧ e = .returned (.tuple #[.agg #[.int .u8 (k.toNat : Int), .int .u64 (g : Int), .slice (some ⟨blk, 0, none⟩) b.length b.length], .int .i64 0])

set_option maxRecDepth 100000 in
set_option maxHeartbeats 1000000 in
theorem open_short (A : Option Addr) (n c : Nat) (w : World) (hn : n < 15) :
    Calls Try.prog 103 #[.slice A n c] w (RetOpen w none) := by
  go_enter Try.func103, Try.ntmps103
  go_wp2
  refine bodyPost_ret (v := .tuple #[.agg #[.int .u8 0, .int .u64 0, .slice none 0 0], .int .i64 20]) (by simp [results, Try.results103, go_sem]) rfl ⟨?_, rfl⟩
  exact (Below.refl _ w).alloc (Nat.le_refl _) _

theorem all_take {zs : List UInt8} {k : Nat} {x : UInt8} (hx : zs[k]? = some x) (h : (zs.take k).all (· == 0) = true) (h0 : x = 0) : (zs.take (k + 1)).all (· == 0) = true := by
  obtain ⟨hl, rfl⟩ := List.getElem?_eq_some_iff.1 hx
  rw [List.take_succ_eq_append_getElem hl, List.all_append, h]
  simp [h0]
theorem not_all {zs : List UInt8} {k : Nat} {x : UInt8} (hx : zs[k]? = some x) (h0 : ¬ x = 0) : zs.all (· == 0) = false := by
  obtain ⟨hl, rfl⟩ := List.getElem?_eq_some_iff.1 hx
  rw [List.all_eq_false]
  exact ⟨_, List.getElem_mem hl, by simpa using h0⟩

set_option maxRecDepth 100000 in
set_option maxHeartbeats 1000000 in
theorem open_any (A : Option Addr) (m c : Nat) (bs : List UInt8) (w : World) (hr : RdB w A (m + 4) bs) (h8 : m ≤ 8188) (h11 : 11 ≤ m) (hc : m + 4 ≤ c) (hcm : c ≤ maxLen) :
    Calls Try.prog 103 #[.slice A (m + 4) c] w (RetOpen w (openB bs)) := by
  have HR := Lib.hid hr
  have HC := Lib.hid hcm
  clear hr hcm
  obtain ⟨ad, rfl, hadb, _⟩ := HR.out.2 (by omega)
  have hs1 : (0 : Int) ≤ (m : Int) := by omega
  have hs2 : (m : Int) ≤ (c : Int) := by omega
  have hs3 : (m : Int) ≤ (m : Int) + 4 := by omega
  have hs4 : ¬ c = m := by omega
  have hs5 : ¬ c = 0 := by omega
  have hnv := nv_u64 (crc (bs.take m))
  go_enter Try.func103, Try.ntmps103
  go_wp2
  refine at_world ?_
  intro W hW
  have HF : Hid (Blk W w.heap.size 116 #[.int .u8 0, .int .u64 0, .slice none 0 0]) := by rw [hW.out]; exact Blk.new _ _ _
  have HO : Hid (Below w.heap.size w W) := by rw [hW.out]; exact (Below.refl _ w).alloc (Nat.le_refl _) _
  clear hW
  have HRW : Hid (RdB W (some ad) (m + 4) bs) := HR.out.below HO.out
  have HS : Hid (RdB W (some ad) m (bs.take m)) := by have h := HRW.out.take (k := m) (by omega); rw [← List.map_take] at h; exact h
  have HG : Hid (RdB W (some (ad.add m)) 4 (bs.drop m)) := by
    have h := HRW.out.cut (k := m) (cap := c) (by omega) (by omega)
    rw [if_neg hs4, ← List.map_drop, show m + 4 - m = 4 from by omega] at h
    exact h
  go_quiet ((first
    | (go_at_call 93; exact Calls.quiet_of_same ((sum_any _ m c (bs.take m) _ (HS.out.drewN _) (by unfold maxLen; omega)).mono fun _ _ h => ⟨h.1, h.2.symm⟩))
    | (go_at_call 105; exact Calls.quiet_of_same ((get_any _ 4 (c - m) 4 (bs.drop m) _ (HG.out.drewN _) (by omega) (by omega)).mono fun _ _ h => ⟨h.1, h.2.symm⟩))))
  have hg4 : (bs.drop m).take 4 = bs.drop m := List.take_of_length_le (by rw [HG.out.blen]; omega)
  rw [hg4]
  clear hnv hs1 hs2 hs3 hs4 hs5
  have c0 := HF.out.at_ 0 rfl
  have c1 := HF.out.at_ 1 rfl
  have c2 := HF.out.at_ 2 rfl
  have f0 := HF.out.frozen 0
  have f1 := HF.out.frozen 1
  have f2 := HF.out.frozen 2
  have hl := HR.out.blen
  by_cases hsum : (crc (bs.take m)).toNat = leN (bs.drop m)
  case neg =>
    have hne : (((crc (bs.take m)).toNat : Int) != (leN (bs.drop m) : Int)) = true := by simp; omega
    have HX : Hid (openB bs = none) := by
      show _ = _
      rw [openB, if_neg (by omega), hl, if_pos (by rw [show m + 4 - 4 = m from by omega]; exact hsum)]
    clear hsum hl
    go_wp2_with fail
    refine bodyPost_ret (v := .tuple #[.agg #[.int .u8 0, .int .u64 0, .slice none 0 0], .int .i64 20]) (by simp [results, Try.results103, go_sem, c0, c1, c2]) rfl ?_
    rw [HX.out]
    refine ⟨?_, rfl⟩
    exact (((below_drewN HO.out _).setCell (p := ⟨w.heap.size, 0, none⟩) (Nat.le_refl _) _).setCell (p := ⟨w.heap.size, 1, none⟩) (Nat.le_refl _) _).setCell (p := ⟨w.heap.size, 2, none⟩) (Nat.le_refl _) _
  case pos =>
    have hne : (((crc (bs.take m)).toNat : Int) != (leN (bs.drop m) : Int)) = false := by simp [hsum]
    have HSUM := Lib.hid hsum
    have HL := Lib.hid hl
    clear hsum hl
    have hs1 : (1 : Int) ≤ (m : Int) + 4 := by omega
    have hs4 : ¬ c = 1 := by omega
    have HG1 : Hid (RdB W (some (ad.add 1)) (m + 3) (bs.drop 1)) := by
      have h := HRW.out.cut (k := 1) (cap := c) (by omega) (by omega)
      rw [if_neg hs4, ← List.map_drop, show m + 4 - 1 = m + 3 from by omega] at h
      exact h
    go_wp2_with fail
    refine ((get_any _ (m + 3) (c - 1) 2 (bs.drop 1) _ (HG1.out.drewN _) (by omega) (by omega))).mono ?_
    rintro e w1 ⟨rfl, rfl⟩
    obtain ⟨N, hN⟩ : ∃ N, N = leN ((bs.drop 1).take 2) := ⟨_, rfl⟩
    rw [← hN]
    have hN16 : N < 65536 := by
      have h := leN_lt ((bs.drop 1).take 2)
      have h2 : ((bs.drop 1).take 2).length = 2 := by simp; have := HL.out; omega
      rw [h2] at h
      rw [hN]
      exact h
    have HN := Lib.hid hN
    clear hN hs1 hs4 hne
    go_wp2_with fail
    refine (room_any _ _ (by omega)).mono ?_
    rintro e w1 ⟨rfl, rfl⟩
    have hroom : roomZ ((m : Int) + 4) = (m : Int) - 11 := by rw [roomZ, if_pos (by omega)]; omega
    rw [hroom]
    clear hroom
    by_cases hfit : m - 11 < N
    case pos =>
      have HX : Hid (openB bs = none) := by
        show _ = _
        rw [openB, if_neg (by have := HL.out; omega), HL.out, if_neg (by rw [show m + 4 - 4 = m from by omega]; simp [HSUM.out]), ← HN.out, if_pos (by omega)]
      have hgt : (m : Int) - 11 < (N : Int) := by omega
      clear hfit
      go_wp2_with fail
      refine bodyPost_ret (v := .tuple #[.agg #[.int .u8 0, .int .u64 0, .slice none 0 0], .int .i64 20]) (by simp [results, Try.results103, go_sem, c0, c1, c2]) rfl ?_
      rw [HX.out]
      refine ⟨?_, rfl⟩
      exact (((below_drewN HO.out _).setCell (p := ⟨w.heap.size, 0, none⟩) (Nat.le_refl _) _).setCell (p := ⟨w.heap.size, 1, none⟩) (Nat.le_refl _) _).setCell (p := ⟨w.heap.size, 2, none⟩) (Nat.le_refl _) _
    case neg =>
      have hle : (N : Int) ≤ (m : Int) - 11 := by omega
      have hs1 : (11 : Int) + (N : Int) ≤ (m : Int) := by omega
      have hs2 : (m : Int) ≤ (c : Int) := by omega
      have hs4 : ¬ c = 11 + N := by omega
      go_wp2_with fail
      have HZ : Hid (RdB W (some (ad.add (11 + N))) (m - (11 + N)) ((bs.drop (11 + N)).take (m - (11 + N)))) := by
        have h := HRW.out.cut (k := 11 + N) (cap := c) (by omega) (by omega)
        rw [if_neg hs4, ← List.map_drop] at h
        have h2 := h.take (k := m - (11 + N)) (by omega)
        rw [← List.map_take] at h2
        exact h2
      have hM1 : m - (11 + N) ≤ 8188 := by omega
      have HB1 : Hid (m + 4 - 15 - N = m - (11 + N)) := by show _ = _; omega
      have HB2 : Hid (¬ m + 4 - 15 < N) := by show ¬ _; omega
      clear hs1 hs2 hs4
      generalize hM : m - (11 + N) = M at HZ hM1 HB1
      generalize hZ : (bs.drop (11 + N)).take M = zs at HZ
      replace hM := Lib.hid hM
      replace hZ := Lib.hid hZ
      go_loop [7, 48] (fun _ i => ∃ k : Nat, k ≤ M ∧ i = .int .i64 k ∧ Hid ((zs.take k).all (· == 0) = true)) (fun _ i => M - (intOf i).toNat)
      case atStart => exact ⟨0, Nat.zero_le _, rfl, rfl⟩
      case round =>
        obtain ⟨k, hk, rfl, hz⟩ := hrel
        by_cases hlt : k < M
        · obtain ⟨ad2, b, had2, _, hb, hc⟩ := HZ.out.byte hlt
          cases had2
          by_cases hb0 : b = 0
          · have h0 : ((b.toNat : Int) != 0) = false := by rw [hb0]; rfl
            have HB := Lib.hid hb0
            clear hb0
            go_wp2_with fail
            go_round
            case rel => exact ⟨k + 1, by omega, by go_num, all_take hb.out hz.out HB.out⟩
            case measure => simp [intOf]; omega
          · have h0 : ((b.toNat : Int) != 0) = true := by
              have : b.toNat ≠ 0 := fun e => hb0 (by rw [← UInt8.toNat_inj]; exact e)
              simp; omega
            have HX : Hid (openB bs = none) := by
              show _ = _
              rw [openB, if_neg (by have := HL.out; omega), HL.out, if_neg (by rw [show m + 4 - 4 = m from by omega]; simp [HSUM.out]), ← HN.out, if_neg HB2.out, HB1.out, hZ.out, if_pos (not_all hb.out hb0)]
            clear hb0
            go_wp2_with fail
            refine bodyPost_ret (v := .tuple #[.agg #[.int .u8 0, .int .u64 0, .slice none 0 0], .int .i64 20]) (by simp [results, Try.results103, go_sem, c0, c1, c2]) rfl ?_
            rw [HX.out]
            refine ⟨?_, rfl⟩
            exact (((below_drewN HO.out _).setCell (p := ⟨w.heap.size, 0, none⟩) (Nat.le_refl _) _).setCell (p := ⟨w.heap.size, 1, none⟩) (Nat.le_refl _) _).setCell (p := ⟨w.heap.size, 2, none⟩) (Nat.le_refl _) _
        · obtain rfl : k = M := by omega
          have HZA : Hid (zs.all (· == 0) = true) := by
            have h := hz.out
            rw [List.take_of_length_le (by rw [HZ.out.blen]; omega)] at h
            exact h
          have hs1 : (11 : Int) ≤ (m : Int) + 4 := by omega
          have hs4 : ¬ c = 11 := by omega
          have HC1 : Hid (RdB W (some (ad.add 11)) (m - 7) (bs.drop 11)) := by
            have h := HRW.out.cut (k := 11) (cap := c) (by omega) (by omega)
            rw [if_neg hs4, ← List.map_drop, show m + 4 - 11 = m - 7 from by omega] at h
            exact h
          have H1 : Hid (1 * N ≤ 281474976710656) := by show 1 * N ≤ _; omega
          have H2 : Hid (N ≤ maxLen) := by show N ≤ _; unfold maxLen; omega
          obtain ⟨i0, hi, hz0, hz1, hz2⟩ := info_parts infoU8
          clear hle hz hk hlt hM1
          go_wp2_with (at_make; refine wpList_make_row _ rfl (.tmp 56) (.tmp 56) 36 rfl 5 i0 (.int .u8 0) 1 Try.underlying36 hi hz0 hz1 hz2 rfl .i64 .i64 (N : Int) (N : Int) N rfl rfl rfl rfl H1.out H2.out ?_; refine at_world_list ?_)
          intro W2 hW2
          have hgW : w.heap.size < W.heap.size := HF.out.lt
          have HF2 : Hid (Blk W2 w.heap.size 116 #[.int .u8 0, .int .u64 0, .slice none 0 0]) := by rw [hW2.out]; exact (HF.out.drewN _).alloc _
          have HN2 : Hid (BlkB W2 W.heap.size (List.replicate N 0)) := by
            rw [hW2.out]
            have h := BlkB.zeros (W.drewN nq) N
            rw [World.heap_drewN] at h
            show BlkB _ _ _
            simpa using h
          have HO2 : Hid (Below W.heap.size W W2) := by rw [hW2.out]; exact (below_drewN (Below.refl _ W) _).alloc (by simp) _
          have HC2 : Hid (RdB W2 (some (ad.add 11)) (m - 7) (bs.drop 11)) := HC1.out.below HO2.out
          clear hW2 H1 H2 hi hz0 hz1 hz2
          go_wp2_with (refine wpList_copy_min rfl (.tmp 58) (.tmp 60) rfl W.heap.size 0 N N (some (ad.add 11)) (m - 7) (c - 11) _ (bs.drop 11) rfl rfl HN2.out HC2.out (by simp) ?_)
          intro W3 hz3 ho3
          rw [show splice (List.replicate N (0 : UInt8)) 0 ((bs.drop 11).take N) = (bs.drop 11).take N from by
            have h := splice_at (P := []) (cs := (bs.drop 11).take N) (D := List.replicate N 0) (S := []) (off := 0) rfl (by simp; have := HL.out; have := HB2.out; omega)
            simpa using h] at hz3
          have HZ3 := Lib.hid hz3
          have HO3 : Hid (Below W.heap.size W W3) := HO2.out.trans (ho3.below (by rintro k rfl; omega) HO2.out.size)
          have HF3 : Hid (Blk W3 w.heap.size 116 #[.int .u8 0, .int .u64 0, .slice none 0 0]) := HF2.out.only ho3 (by omega)
          have HR3 : Hid (RdB W3 (some ad) (m + 4) bs) := HRW.out.below HO3.out
          clear hz3 ho3 HF2 HN2 HO2 HC2 HC1 c0 c1 c2 f0 f1 f2 hs1 hs4
          have hs1 : (3 : Int) ≤ (m : Int) + 4 := by omega
          have hs4 : ¬ c = 3 := by omega
          have hs6 : (0 : Int) < (m : Int) + 4 := by omega
          go_wp2
          refine still_tail 7 (by kernel_rfl) (by kernel_rfl) ?_
          intro W4 hW4
          have HF4 : Hid (Blk W4 w.heap.size 116 #[.int .u8 0, .int .u64 0, .slice none 0 0]) := by rw [hW4.out]; exact HF3.out
          have HZ4 : Hid (BlkB W4 W.heap.size ((bs.drop 11).take N)) := by rw [hW4.out]; exact HZ3.out
          have HO4 : Hid (Below W.heap.size W W4) := by rw [hW4.out]; exact HO3.out.drew
          have HR4 : Hid (RdB W4 (some ad) (m + 4) bs) := by rw [hW4.out]; exact HR3.out
          have HG4 : Hid (RdB W4 (some (ad.add 3)) (m + 1) (bs.drop 3)) := by
            have h := HR4.out.cut (k := 3) (cap := c) (by omega) (by omega)
            rw [if_neg hs4, ← List.map_drop, show m + 4 - 3 = m + 1 from by omega] at h
            exact h
          clear hW4 HF3 HZ3 HO3 HR3
          obtain ⟨ad5, b0, had5, _, hb0, hcb⟩ := HR4.out.byte (k := 0) (by omega)
          cases had5
          rw [add_zero] at hcb
          have c0 := HF4.out.at_ 0 rfl
          have c1 := HF4.out.at_ 1 rfl
          have c2 := HF4.out.at_ 2 rfl
          have f0 := HF4.out.frozen 0
          have f1 := HF4.out.frozen 1
          have f2 := HF4.out.frozen 2
          simp only [List.take_succ_cons, List.take_zero, List.drop_succ_cons, List.drop_zero]
          repeat still_step
          still_call (((get_any _ (m + 1) (c - 3) 8 (bs.drop 3) _ HG4.out (by omega) (by omega)).mono fun _ _ h => ⟨h.1, h.2.symm⟩))
          repeat still_step
          refine wpStill_nil ?_
          go_wp2_with fail
          have hNle : N ≤ m - 11 := by have := HB2.out; omega
          have HX : Hid (openB bs = some (b0, leN ((bs.drop 3).take 8), (bs.drop 11).take N)) := by
            show _ = _
            rw [openB, if_neg (by have := HL.out; omega), HL.out, if_neg (by rw [show m + 4 - 4 = m from by omega]; simp [HSUM.out]), ← HN.out, if_neg HB2.out, HB1.out, hZ.out, if_neg (by rw [HZA.out]; simp)]
            congr 2
            obtain ⟨hl0, e0⟩ := List.getElem?_eq_some_iff.1 hb0.out
            rw [← e0]
            simp [List.getD, List.getElem?_eq_getElem hl0]
          refine bodyPost_ret (v := .tuple #[.agg #[.int .u8 (b0.toNat : Int), .int .u64 (leN ((bs.drop 3).take 8) : Int), .slice (some ⟨W.heap.size, 0, none⟩) N N], .int .i64 0]) (by simp [results, Try.results103, go_sem, c0, c1, c2]) rfl ?_
          rw [HX.out]
          have hbel : Below W.heap.size W W4 := HO4.out
          refine ⟨?_, W.heap.size, by omega, ?_, ?_⟩
          · exact (((HO.out.trans (hbel.mono (by omega))).setCell (p := ⟨w.heap.size, 0, none⟩) (Nat.le_refl _) _).setCell (p := ⟨w.heap.size, 1, none⟩) (Nat.le_refl _) _).setCell (p := ⟨w.heap.size, 2, none⟩) (Nat.le_refl _) _
          · exact ((HZ4.out.far (by simp; omega) _).far (by simp; omega) _).far (by simp; omega) _
          · have hlN : ((bs.drop 11).take N).length = N := by simp; have := HL.out; omega
            rw [hlN]
end Go.Proofs.Ytenommboacjopaa
