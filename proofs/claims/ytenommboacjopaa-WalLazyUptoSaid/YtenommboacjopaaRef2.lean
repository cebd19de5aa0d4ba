/- arborref2.Seal by its contract: the same bytes as the program's. -/
import Derived.Test.YtenommboacjopaaRef1
namespace Go.Proofs.Ytenommboacjopaa
open Go.RowKit

/-- A frame is handed back, in a row of its own; nothing that lay is turned. -/
def RetRow0 (bs : List UInt8) (w : World) (e : Ending) (w' : World) : Prop :=
  ∃ A c, e = .returned (.tuple #[.slice A bs.length c, .int .i64 0]) ∧ w'.ownsRow w.heap.size 5 1 (.slice A bs.length c) bs.length (bs.map bv) ∧ Below w.heap.size w w'

/-- A name for the world of a call. -/
theorem at_calls {P : Program} {f : FuncId} {args : Array Value} {w : World} {K : Ending → World → Prop} (h : ∀ W, Hid (W = w) → Calls P f args W K) : Calls P f args w K := h w rfl
/-- append of bytes onto a row of bytes of the call's own. -/
theorem wpList_append_bytes {w : World} {ops : Array Oper} {rest : List Oper} {o : Oper} {a : Act} {Q : Exit → Act → World → Prop} (hgd : o.guard = none) (s x : Operand)
    (ho : o.op = .call { callee := .builtin .append, args := #[s, x], argTypes := #[36, 36] })
    (base n : Nat) (v : Value) (bs : List UInt8) (hs : a.eval s = v) (hown : w.ownsRow base 5 1 v n (bs.map bv))
    (A : Option Addr) (m c : Nat) (cs : List UInt8) (hx : a.eval x = .slice A m c) (hr : RdB w A m cs) (hlim : n + m ≤ 100000000000) (hb : base ≤ w.heap.size)
    (h : ∀ A' c' w', w'.ownsRow base 5 1 (.slice A' (n + m) c') (n + m) ((bs ++ cs).map bv) → Below base w w' → wpList Try.prog ops Q rest (a.put o.dst (.slice A' (n + m) c')) w') : wpList Try.prog ops Q (o :: rest) a w := by
  obtain ⟨i0, hi, hz0, hz1, hz2⟩ := info_parts infoU8
  refine wpList_append_src hgd s x 36 ho base 5 i0 (.int .u8 0) 1 Try.underlying36 hi hz0 hz1 hz2 rfl v n (bs.map bv) hs hown A m c (cs.map bv) hx hr (map_bv_one _) (by unfold maxLen; omega) (by omega) hb ?_
  intro v' w' h1 h2 _
  rw [← List.map_append] at h1
  obtain ⟨A', c', rfl⟩ := own_slice h1
  exact h A' c' w' h1 ((Below.refl base w).grown h2 hb (fun k hk => (hown.lt k hk).1))
theorem rd_byte (w : World) (b : UInt8) : RdB (w.alloc (.cells #[.int .u8 (b.toNat : Int)] 5)) (some ⟨w.heap.size, 0, none⟩) 1 [b] :=
  Rd.of_blk (Blk.new w 5 #[.int .u8 (b.toNat : Int)]) rfl rfl
theorem own_below {w w' : World} {base : Nat} {e : TypeId} {size : Nat} {v : Value} {n : Nat} {xs : List Value} (h : w.ownsRow base e size v n xs) (hb : Below w.heap.size w w') : w'.ownsRow base e size v n xs :=
  ownsRow_only (F := fun _ => False) h ⟨hb.os, hb.tape, hb.output, hb.size, fun k hk _ => hb.block k hk⟩ (fun _ _ hf => hf)

set_option maxRecDepth 100000 in
set_option maxHeartbeats 4000000 in
theorem rseal_any (kind : UInt8) (gen : Nat) (A : Option Addr) (n c m : Nat) (body : List UInt8) (w : World) (hr : RdB w A n body) (h8 : m ≤ 8188) (hn : n + 11 ≤ m) (hgen : gen < 18446744073709551616) :
    Calls Try.prog 53 #[.agg #[.int .u8 (kind.toNat : Int), .int .u64 (gen : Int), .slice A n c], .int .i64 ((m : Int) + 4)] w (RetRow0 (sealB kind gen body m) w) := by
  have HR := Lib.hid hr
  have HGEN := Lib.hid hgen
  clear hr hgen
  have hd : decide ((15 : Int) ≤ (m : Int) + 4 ∧ (m : Int) + 4 ≤ 8192) = true := by simp; omega
  have HDD := Lib.hid hd
  clear hd
  go_enter Try.func53, Try.ntmps53
  go_wp2_with (go_at_call 78; refine (issize_any _ _).mono ?_; rw [HDD.out]; rintro e w' ⟨rfl, rfl⟩)
  go_quiet ((go_at_call 79; exact Calls.quiet_of_same ((rroom_any m _ (by omega) h8).mono fun _ _ h => ⟨h.1, h.2.symm⟩)))
  go_wp2_with (go_at_call 80; refine at_calls ?_)
  intro W0 hW0
  have HF0 : Hid (Blk W0 w.heap.size 116 #[.int .u8 (kind.toNat : Int), .int .u64 (gen : Int), .slice A n c]) := by rw [hW0.out]; exact ((Blk.new _ _ _).drewN _).alloc _
  have HK0 : Hid (W0.ownsRow (w.heap.size + 1) 5 1 (.slice (some ⟨w.heap.size + 1, 0, none⟩) 1 1) 1 ([kind].map bv)) := by
    rw [hW0.out]
    have h := own_full (base := w.heap.size + 1) (n := 1) (e := 5) (cs := [kind].map bv) ((w.alloc (Obj.cells #[.int .u8 (kind.toNat : Int), .int .u64 (gen : Int), .slice A n c] 116)).drewN nq) (by simp) rfl (by unfold maxLen; omega) (map_bv_one _)
    rw [World.heap_drewN, World.size_alloc] at h
    exact h
  have HO0 : Hid (Below (w.heap.size) w W0) := by rw [hW0.out]; exact (below_drewN ((Below.refl _ w).alloc (Nat.le_refl _) _) _).alloc (by simp) _
  have hS0 : w.heap.size + 1 < W0.heap.size := by rw [hW0.out]; simp
  clear hW0
  have hx2 : n < 18446744073709551616 := by omega
  refine (low_any n 2 W0 (by omega) hx2).mono ?_
  rintro e W1 ⟨A1, c1, rfl, hown, hbl⟩
  rw [leB_length] at hown
  rw [leB_length]
  have HS1 := Lib.hid (Rd.of_own hown)
  have HF1 : Hid (Blk W1 w.heap.size 116 #[.int .u8 (kind.toNat : Int), .int .u64 (gen : Int), .slice A n c]) := HF0.out.below hbl HF0.out.lt
  have HK1 := Lib.hid (own_below HK0.out hbl)
  have HO1 : Hid (Below w.heap.size w W1) := HO0.out.trans (hbl.mono (by omega))
  have hS1 : w.heap.size + 1 < W1.heap.size := Nat.lt_of_lt_of_le hS0 hbl.size
  clear hown hbl HF0 HK0 HO0 hS0 hx2
  go_wp2_with (at_builtin; refine wpList_append_bytes rfl (.tmp 27) (.tmp 28) rfl (w.heap.size + 1) 1 _ [kind] rfl HK1.out A1 2 c1 (leB n 2) rfl HS1.out (by omega) (by omega) ?_)
  intro A2 c2 W2 hown hbl
  have HK2 := Lib.hid hown
  have HF2 : Hid (Blk W2 w.heap.size 116 #[.int .u8 (kind.toNat : Int), .int .u64 (gen : Int), .slice A n c]) := HF1.out.below hbl (by omega)
  have HO2 : Hid (Below w.heap.size w W2) := HO1.out.trans (hbl.mono (by omega))
  have hS2 : w.heap.size + 1 < W2.heap.size := Nat.lt_of_lt_of_le hS1 hbl.size
  have f1 : W2.cell? ⟨w.heap.size, 1, none⟩ = some (.int .u64 (gen : Int)) := HF2.out.at_ 1 rfl
  clear hown hbl HK1 HF1 HO1 hS1 HS1
  go_wp2_with (go_at_call 80; refine (low_any gen 8 W2 (by omega) HGEN.out).mono ?_)
  rintro e W3 ⟨A3, c3, rfl, hown, hbl⟩
  rw [leB_length] at hown
  rw [leB_length]
  have HS3 := Lib.hid (Rd.of_own hown)
  have HF3 : Hid (Blk W3 w.heap.size 116 #[.int .u8 (kind.toNat : Int), .int .u64 (gen : Int), .slice A n c]) := HF2.out.below hbl HF2.out.lt
  have HK3 := Lib.hid (own_below HK2.out hbl)
  have HO3 : Hid (Below w.heap.size w W3) := HO2.out.trans (hbl.mono (by omega))
  have hS3 : w.heap.size + 1 < W3.heap.size := Nat.lt_of_lt_of_le hS2 hbl.size
  clear hown hbl HF2 HK2 HO2 hS2 f1
  go_wp2_with (at_builtin; refine wpList_append_bytes rfl (.tmp 33) (.tmp 34) rfl (w.heap.size + 1) (1 + 2) _ ([kind] ++ leB n 2) rfl HK3.out A3 8 c3 (leB gen 8) rfl HS3.out (by omega) (by omega) ?_)
  intro A4 c4 W4 hown hbl
  have HK4 := Lib.hid hown
  have HF4 : Hid (Blk W4 w.heap.size 116 #[.int .u8 (kind.toNat : Int), .int .u64 (gen : Int), .slice A n c]) := HF3.out.below hbl (by omega)
  have HO4 : Hid (Below w.heap.size w W4) := HO3.out.trans (hbl.mono (by omega))
  have hS4 : w.heap.size + 1 < W4.heap.size := Nat.lt_of_lt_of_le hS3 hbl.size
  have HR4 : Hid (RdB W4 A n body) := HR.out.below HO4.out
  have f2 : W4.cell? ⟨w.heap.size, 2, none⟩ = some (.slice A n c) := HF4.out.at_ 2 rfl
  clear hown hbl HF3 HK3 HO3 hS3 HS3
  go_wp2_with (at_builtin; refine wpList_append_bytes rfl (.tmp 36) (.tmp 38) rfl (w.heap.size + 1) (1 + 2 + 8) _ ([kind] ++ leB n 2 ++ leB gen 8) rfl HK4.out A n c body rfl HR4.out (by omega) (by omega) ?_)
  intro A5 c5 W5 hown hbl
  obtain ⟨P, hP⟩ : ∃ P, P = [kind] ++ leB n 2 ++ leB gen 8 ++ body := ⟨_, rfl⟩
  have HPD := Lib.hid hP
  have HK5 : Hid (W5.ownsRow (w.heap.size + 1) 5 1 (.slice A5 (11 + n) c5) (11 + n) (P.map bv)) := by
    show World.ownsRow _ _ _ _ _ _ _
    rw [hP]; simpa using hown
  have HO5 : Hid (Below w.heap.size w W5) := HO4.out.trans (hbl.mono (by omega))
  have hS5 : w.heap.size + 1 < W5.heap.size := Nat.lt_of_lt_of_le hS4 hbl.size
  clear hown hbl HF4 HK4 HO4 hS4 f2 HR4 hP
  obtain ⟨q, hq⟩ : ∃ q, q = 11 + n := ⟨_, rfl⟩
  rw [← hq] at HK5 ⊢
  have hqm : q ≤ m := by omega
  have HQ := Lib.hid hq
  clear hq
  go_wp2
  go_loopw [6] (fun v wr => ∃ (j : Nat) (A' : Option Addr) (c' : Nat), q + j ≤ m ∧ v = .slice A' (q + j) c' ∧ wr.ownsRow (w.heap.size + 1) 5 1 (.slice A' (q + j) c') (q + j) ((P ++ List.replicate j 0).map bv) ∧ Below w.heap.size w wr ∧ w.heap.size + 1 < wr.heap.size) (fun v _ => m - sliceLen v)
  case atStart => exact ⟨0, A5, c5, hqm, rfl, by simpa using HK5.out, HO5.out, hS5⟩
  case round =>
    obtain ⟨j, A6, c6, hj, rfl, hown, hb6, hS6⟩ := hrel
    have HK6 := Lib.hid hown
    have HO6 := Lib.hid hb6
    clear hown hb6 HK5 HO5
    obtain ⟨T, hT⟩ : ∃ T, T = q + j := ⟨_, rfl⟩
    rw [← hT] at HK6 hj ⊢
    have HT := Lib.hid hT
    clear hT
    by_cases hlt : T < m
    · go_wp2_with (at_builtin; refine wpList_append_bytes rfl (.tmp 45) (.tmp 46) rfl (w.heap.size + 1) T _ (P ++ List.replicate j 0) rfl (HK6.out.alloc _) _ 1 1 [0] rfl (rd_byte wr 0) (by omega) (by simp; omega) ?_)
      intro A7 c7 W7 hown hbl
      have HB7 : Hid (Below w.heap.size w W7) := (HO6.out.alloc HO6.out.size _).trans (hbl.mono (by omega))
      have hS7 : w.heap.size + 1 < W7.heap.size := by have := hbl.size; simp at this; omega
      have HK7 : Hid (W7.ownsRow (w.heap.size + 1) 5 1 (.slice A7 (T + 1) c7) (T + 1) ((P ++ List.replicate (j + 1) 0).map bv)) := by
        show World.ownsRow _ _ _ _ _ _ _
        simpa [List.replicate_succ'] using hown
      clear hown hbl
      go_wp2
      have hqj : q + (j + 1) = T + 1 := by rw [HT.out]; omega
      clear HT
      go_roundw
      case rel => exact ⟨j + 1, A7, c7, by omega, by rw [hqj], by rw [hqj]; exact HK7.out, HB7.out, hS7⟩
      case measure => show m - (T + 1) < m - T; omega
    · obtain rfl : T = m := by omega
      have hb : body.length = n := HR.out.blen
      have hjn : j = T - 11 - n := by have := HT.out; have := HQ.out; omega
      have hPB : P ++ List.replicate j 0 = preB kind gen body T := by
        rw [HPD.out, preB, hb, hjn]; simp
      have HPB := Lib.hid hPB
      have HSB : Hid (sealB kind gen body T = preB kind gen body T ++ leB (crc (preB kind gen body T)).toNat 4) := rfl
      have HSL : Hid ((sealB kind gen body T).length = T + 4) := sealB_length (by omega)
      have HRP : Hid (RdB wr A6 T (preB kind gen body T)) := by
        have h := Rd.of_own HK6.out
        rw [hPB] at h
        exact h
      have HKP : Hid (wr.ownsRow (w.heap.size + 1) 5 1 (.slice A6 T c6) T ((preB kind gen body T).map bv)) := by
        have h := HK6.out
        rw [hPB] at h
        exact h
      have hnv := nv_u64 (crc (preB kind gen body T))
      have hcl : (crc (preB kind gen body T)).toNat < 4294967296 := (crc (preB kind gen body T)).isLt
      obtain ⟨x, hx⟩ : ∃ x, x = (crc (preB kind gen body T)).toNat := ⟨_, rfl⟩
      rw [← hx] at hnv hcl
      have HXX := Lib.hid hx
      have HX8 : Hid (x < 18446744073709551616) := by show _ < _; omega
      clear hb hjn hPB hx hcl HK6
      have HML : Hid (T ≤ maxLen) := by show _ ≤ _; unfold maxLen; omega
      go_wp2_with (go_at_call 81; refine (rsum_any A6 T c6 _ _ HRP.out HML.out).mono ?_; rintro e w8 ⟨rfl, rfl⟩)
      refine (low_any x 4 wr (by omega) HX8.out).mono ?_
      rintro e W9 ⟨A9, c9, rfl, hown, hbl⟩
      rw [leB_length] at hown
      rw [leB_length]
      have HS9 := Lib.hid (Rd.of_own hown)
      have HK9 := Lib.hid (own_below HKP.out hbl)
      have HO9 : Hid (Below w.heap.size w W9) := HO6.out.trans (hbl.mono HO6.out.size)
      have hS9 : w.heap.size + 1 < W9.heap.size := Nat.lt_of_lt_of_le hS6 hbl.size
      clear hown hbl
      go_wp2_with (at_builtin; refine wpList_append_bytes rfl (.tmp 52) (.tmp 53) rfl (w.heap.size + 1) T _ (preB kind gen body T) rfl HK9.out A9 4 c9 (leB x 4) rfl HS9.out (by omega) (by omega) ?_)
      intro A10 c10 W10 hown hbl
      have HK10 : Hid (W10.ownsRow (w.heap.size + 1) 5 1 (.slice A10 (T + 4) c10) (T + 4) ((sealB kind gen body T).map bv)) := by
        show World.ownsRow _ _ _ _ _ _ _
        rw [HSB.out, ← HXX.out]
        simpa using hown
      have HO10 : Hid (Below w.heap.size w W10) := HO9.out.trans (hbl.mono (by omega))
      clear hown hbl
      go_wp2
      go_ret2
      exact ⟨A10, c10, by rw [HSL.out]; rfl, by rw [HSL.out]; exact ownsRow_base HK10.out (by omega), HO10.out⟩
end Go.Proofs.Ytenommboacjopaa
