/- arborlaw5.WalRooms walked: it answers true. -/
import Derived.Test.YtenommboacjopaaRooms0
namespace Go.Proofs.Ytenommboacjopaa
open Go.RowKit

/-- A slice of slices of bytes that came in. -/
def RowsB (w : World) (R : Option Addr) (len : Nat) : Prop :=
  0 < len → ∃ ad, R = some ad ∧ ad.block < w.heap.size ∧ ∀ j, j < len → ∃ A n c bs, w.cell? (ad.add j) = some (.slice A n c) ∧ RdB w A n bs ∧ n ≤ 140737488351232
theorem RowsB.at_ {w : World} {R : Option Addr} {len : Nat} (h : RowsB w R len) {j : Nat} (hj : j < len) : ∃ ad A n c bs, R = some ad ∧ w.cell? (ad.add j) = some (.slice A n c) ∧ RdB w A n bs ∧ n ≤ 140737488351232 := by
  obtain ⟨ad, e, _, hc⟩ := h (by omega)
  obtain ⟨A, n, c, bs, h1, h2, h3⟩ := hc j hj
  exact ⟨ad, A, n, c, bs, e, h1, h2, h3⟩
theorem RowsB.look {w : World} {R : Option Addr} {len : Nat} (h : RowsB w R len) {j : Nat} (hj : j < len) : ∃ ad A n c bs, R = some ad ∧ Hid (∀ w', Below w.heap.size w w' → w'.cell? (ad.add j) = some (.slice A n c)) ∧ RdB w A n bs ∧ n ≤ 140737488351232 := by
  obtain ⟨ad, e, hlt, hc⟩ := h (by omega)
  obtain ⟨A, n, c, bs, h1, h2, h3⟩ := hc j hj
  exact ⟨ad, A, n, c, bs, e, fun w' hb => (World.cell?_of_block (w := w) (by rw [block_of_add]; exact hb.block _ hlt)).trans h1, h2, h3⟩
theorem RowsB.below {w w' : World} {R : Option Addr} {len : Nat} (h : RowsB w R len) (hb : Below w.heap.size w w') : RowsB w' R len := by
  intro hl
  obtain ⟨ad, e, hlt, hc⟩ := h hl
  refine ⟨ad, e, Nat.lt_of_lt_of_le hlt hb.size, fun j hj => ?_⟩
  obtain ⟨A, n, c, bs, h1, h2, h3⟩ := hc j hj
  exact ⟨A, n, c, bs, (World.cell?_of_block (w := w) (by rw [block_of_add]; exact hb.block _ hlt)).trans h1, h2.below hb, h3⟩

/-- It answers v; nothing that lay is turned. -/
def RetV (v : Value) (w : World) (e : Ending) (w' : World) : Prop := e = .returned v ∧ Below w.heap.size w w'

/-- Append, whatever the record. -/
def RetAny (w : World) (b l : Nat) (nN sizeN firstN countN epochN : Nat) (L : Lg) (n : Nat) (e : Ending) (w' : World) : Prop :=
  ∃ z D M L' tv, e = .returned (.int .i64 z) ∧ Live w b l nN sizeN firstN countN epochN D M L' tv w' ∧
    ((z = 0 ∧ L'.used = L.used + (2 + n) ∧ 1 ≤ n ∧ n ≤ 1024 ∧ 2 + n ≤ L.restN) ∨ (z = 51 ∧ L' = L ∧ (n < 1 ∨ 1024 < n)) ∨ (z = 50 ∧ L' = L ∧ 1 ≤ n ∧ n ≤ 1024 ∧ L.restN < 2 + n))
theorem append_live (w wr : World) (b l nN sizeN firstN countN epochN : Nat) (D : Dk) (M : DkM) (L : Lg) (tv : Value) (h : Live w b l nN sizeN firstN countN epochN D M L tv wr) (A : Option Addr) (n c : Nat) (bs : List UInt8) (hr : RdB wr A n bs) (hN : firstN + countN ≤ nN) (hs : 32 ≤ sizeN) :
    Calls Try.prog 14 #[.pointer (some ⟨l, 0, none⟩), .slice A n c] wr (RetAny w b l nN sizeN firstN countN epochN L n) := by
  by_cases h1 : n < 1 ∨ 1024 < n
  · refine (append_bad wr l A n c h1).mono ?_
    rintro e w' ⟨rfl, nq, rfl⟩
    exact ⟨51, D, M, L, tv, rfl, h.turn (below_drewN (Below.refl _ _) _), .inr (.inl ⟨rfl, rfl, h1⟩)⟩
  · have h2 : 1 ≤ n := by omega
    have h3 : n ≤ 1024 := by omega
    by_cases h4 : L.restN < 2 + n
    · refine (append_full wr w.heap.size l b L tv A n c h.log h2 h3 h4).mono ?_
      rintro e w' ⟨rfl, nq, rfl⟩
      exact ⟨50, D, M, L, tv, rfl, h.turn (below_drewN (Below.refl _ _) _), .inr (.inr ⟨rfl, rfl, h2, h3, h4⟩)⟩
    · have hu := h.used_le
      have hc := h.cnt
      refine (append_any wr w.heap.size l b D M L tv A n c bs h.log h.dk h.sep (by rw [h.size, h.room]; omega) (by rw [h.first, h.count, h.n]; exact hN) hr h2 h3 (by omega) (by omega)).mono ?_
      intro e w' hx
      obtain ⟨rfl, D', M', L', tv', hl, hu⟩ := h.took h.log.blk.lt hx
      refine ⟨0, D', M', L', tv', rfl, hl, .inl ⟨rfl, ?_, h2, h3, by omega⟩⟩
      rw [hu, List.length_append, leB_length, hr.blen]

theorem zeros_rd (w : World) (N : Nat) : RdB (w.alloc (.cells (List.replicate N (Value.int .u8 0)).toArray 5)) (some ⟨w.heap.size, 0, none⟩) N (List.replicate N 0) := by
  have h := (BlkB.zeros w N).rdB (off := 0) (n := N) (by simp)
  rw [List.drop_zero, List.take_of_length_le (by simp)] at h
  rw [List.toArray_replicate]
  exact h

set_option maxRecDepth 100000 in
set_option maxHeartbeats 4000000 in
theorem rooms_any (w : World) (y : Lay) (R : Option Addr) (len cap : Nat) (more : Bool) (hR : RowsB w R len) (hlen : len ≤ maxLen) :
    Calls Try.prog 3 #[layV y, .slice R len cap, .bool more] w (RetV (.bool true) w) := by
  have HR := Lib.hid hR
  have HOK := Lib.hid y.ok
  clear hR
  have hz : layV y = .agg #[.int .i64 y.s, .int .i64 y.f, .int .i64 y.c, .int .i64 y.b, .int .u64 (y.ep : Int)] := rfl
  rw [hz]
  clear hz
  go_enter Try.func3, Try.ntmps3
  go_wp2_with (first
    | (go_at_call 11; refine (bent_any y _).mono ?_; rintro e w1 ⟨rfl, hb1⟩; have HY1 : Hid (Blk w1 w.heap.size 24 #[.int .i64 y.s, .int .i64 y.f, .int .i64 y.c, .int .i64 y.b, .int .u64 (y.ep : Int)]) := (Blk.new w _ _).below hb1 (by simp); have HB1 : Hid (Below w.heap.size w w1) := ((Below.refl _ w).alloc (Nat.le_refl _) _).trans (hb1.mono (by simp)); clear hb1)
    | (go_at_call 12; refine (new_ok y.n y.size _ HOK.out.1 HOK.out.2.1 HOK.out.2.2.2.2.2.2.2 (by have := HOK.out.2.2.2.2.2.2.1; omega)).mono ?_; rintro e w2 ⟨b, M, rfl, hd, hb2⟩; have HD : Hid (DiskAt w2 w.heap.size b (freshDk y.size y.n (List.replicate (y.n * y.size) 0)) M) := hd.base HB1.out.size; have HB2 : Hid (Below w.heap.size w w2) := HB1.out.trans (hb2.mono HB1.out.size); have k4 : w2.cell? ⟨w.heap.size, 4, none⟩ = some (.int .u64 (y.ep : Int)) := (HY1.out.below hb2 HY1.out.lt).at_ 4 rfl; clear hd hb2)
    | (go_at_call 13; refine (start_ok w2 _ b _ M y.first y.count y.ep HD.out HOK.out.2.2.2.1 HOK.out.2.2.2.2.1 HOK.out.2.2.2.2.2.1).mono ?_; rintro e w3 ⟨l, rfl, hl, hb3⟩; have HLV : Hid (Live w b l y.n y.size y.first y.count y.ep (freshDk y.size y.n (List.replicate (y.n * y.size) 0)) M (freshLg y.first y.count (y.size - 17) y.ep) (.slice none 0 0) w3) := ⟨HD.out.below hb3, hl.base HB2.out.size, (fun g e => by cases e), ⟨rfl, rfl⟩, HB2.out.trans (hb3.mono HB2.out.size), rfl, rfl, rfl, rfl, rfl, rfl, Nat.zero_le _⟩; clear hl hb3))
  clear k4
  go_loopw [15, 16] (fun u i wr => ∃ (k : Nat) (D' : Dk) (M' : DkM) (L : Lg) (tv : Value), k ≤ len ∧ i = .int .i64 (k : Int) ∧ u = .int .i64 (L.used : Int) ∧ Live w b l y.n y.size y.first y.count y.ep D' M' L tv wr) (fun _ i _ => len - (intOf i).toNat)
  case atStart => exact ⟨0, _, M, _, _, Nat.zero_le _, rfl, by rw [show (freshLg y.first y.count (y.size - 17) y.ep).used = 0 from by simp [Lg.used, freshLg]]; rfl, HLV.out⟩
  case round =>
    obtain ⟨k, D', M', L, tv, hk, rfl, rfl, hlv⟩ := hrel
    have HV := Lib.hid hlv
    have hu := hlv.used_le
    clear hlv
    have HMX : Hid (len ≤ maxLen) := hlen
    unfold maxLen at hlen
    by_cases hlt : k < len
    · obtain ⟨ad, A, n, c, bs, rfl, HCE, hrd, hn⟩ := HR.out.look hlt
      have HRD : Hid (RdB wr A n bs) := hrd.below HV.out.below
      have hcell := HCE.out wr HV.out.below
      clear hrd
      go_wp2_with (first
        | (go_at_call 15; refine (copy_any A n c bs _ HRD.out (by omega)).mono ?_; rintro e w4 ⟨A4, c4, rfl, hown, hb4⟩; have HO4 := Lib.hid (Rd.of_own hown); have HV4 := Lib.hid (HV.out.turn hb4); have hbl : bs.length = n := HRD.out.blen; rw [hbl] at HO4 ⊢; clear hown hb4)
        | (go_at_call 14; refine (append_live w _ b l y.n y.size y.first y.count y.ep D' M' L tv HV4.out A4 n c4 bs HO4.out HOK.out.2.2.2.2.2.1 HOK.out.1).mono ?_; rintro e w5 ⟨z, D5, M5, L5, tv5, rfl, hlv5, hcase⟩; have HV5 := Lib.hid hlv5; have hcell5 := HCE.out w5 hlv5.below; have hu5 := hlv5.used_le; clear hlv5; rcases hcase with ⟨rfl, hu6, hn1, hn2, hx⟩ | ⟨rfl, rfl, hx⟩ | ⟨rfl, rfl, hn1, hn2, hx⟩ <;> clear hx))
      all_goals (
        refine ⟨⟨k + 1, D5, M5, _, tv5, by omega, by go_num, ?_, HV5.out⟩, ?_⟩
        · first | rfl | (rw [hu6]; congr 1; omega)
        · simp [intOf]; omega)
    · obtain rfl : k = len := by omega
      have hru := rest_used HV.out.log.ok
      rw [HV.out.count, HV.out.room] at hru
      obtain ⟨P, hP⟩ : ∃ P, P = y.count * (y.size - 17) := ⟨_, rfl⟩
      rw [← hP] at hru
      have hPZ : (y.count : Int) * ((y.size : Int) - 17) = (P : Int) := by
        have h17 : (y.size : Int) - 17 = ((y.size - 17 : Nat) : Int) := by have := HOK.out.1; omega
        rw [h17, ← Int.natCast_mul, hP]
      have hPm : P ≤ 64448 := by
        have h1 : y.count * (y.size - 17) ≤ 64 * 1007 := Nat.mul_le_mul HOK.out.2.2.2.2.1 (by have := HOK.out.2.1; omega)
        omega
      have HPP := Lib.hid hP
      clear hP
      obtain ⟨r, hr⟩ : ∃ r, r = L.restN := ⟨_, rfl⟩
      obtain ⟨u, hu0⟩ : ∃ u, u = L.used := ⟨_, rfl⟩
      obtain ⟨m, hm⟩ : ∃ m, m = min 1024 (L.restN - 2) := ⟨_, rfl⟩
      rw [← hr, ← hu0] at hru
      rw [← hu0]
      rw [← hu0] at hu
      rw [← hr] at hm
      have HMM : Hid (min 1024 (L.restN - 2) = m) := by show _ = _; rw [← hr, hm]
      have HRR := Lib.hid hr
      have HUU := Lib.hid hu0
      have hs1 := HOK.out.1
      have hs2 := HOK.out.2.1
      clear hr hu0 hlt hk
      have hcase : (r ≤ 2 ∧ m = 0) ∨ (3 ≤ r ∧ r ≤ 1025 ∧ m + 2 = r) ∨ (1026 ≤ r ∧ m = 1024) := by omega
      clear hm
      obtain ⟨i0, hi, hz0, hz1, hz2⟩ := info_parts infoU8
      rcases hcase with ⟨hr1, rfl⟩ | ⟨hr1, hr2, hr3⟩ | ⟨hr1, rfl⟩
      · go_wp2_with (first
          | (go_at_call 16; refine (left_any _ _ l b L tv HV.out.log).mono ?_; rw [HMM.out]; rintro e w6 ⟨rfl, nq, rfl⟩)
          | (at_make; (refine wpList_make_row _ rfl (.tmp 102) (.tmp 102) 36 rfl 5 i0 (.int .u8 0) 1 Try.underlying36 hi hz0 hz1 hz2 rfl .i64 .i64 _ _ (1) rfl rfl rfl rfl (by omega) (by unfold maxLen; omega) ?_))
          | (go_at_call 14; refine (append_live w _ b l y.n y.size y.first y.count y.ep _ _ L tv (HV.out.turn ((below_drewN (Below.refl _ wr) nq).alloc (by simp) _)) _ (1) (1) _ (zeros_rd (wr.drewN nq) (1)) HOK.out.2.2.2.2.2.1 HOK.out.1).mono ?_; rintro e w7 ⟨z, D7, M7, L7, tv7, rfl, hlv7, hcase⟩; have HV7 := Lib.hid hlv7; clear hlv7; rw [← HRR.out, ← HUU.out] at hcase; obtain rfl : z = 50 := (by rcases hcase with h | h | h <;> omega); clear hcase))
        all_goals go_ret
        all_goals exact ⟨rfl, HV7.out.below⟩
      · have HLN : Hid ((m : Int) + 1 = ((m + 1 : Nat) : Int)) := by show _ = _; omega
        cases more with
        | true =>
          go_wp2_with (first
            | (go_at_call 16; refine (left_any _ _ l b L tv HV.out.log).mono ?_; rw [HMM.out]; rintro e w6 ⟨rfl, nq, rfl⟩)
            | (at_make; (refine wpList_make_row _ rfl (.tmp 102) (.tmp 102) 36 rfl 5 i0 (.int .u8 0) 1 Try.underlying36 hi hz0 hz1 hz2 rfl .i64 .i64 _ _ (m + 1) rfl rfl HLN.out HLN.out (by omega) (by unfold maxLen; omega) ?_))
            | (go_at_call 14; refine (append_live w _ b l y.n y.size y.first y.count y.ep _ _ L tv (HV.out.turn ((below_drewN (Below.refl _ wr) nq).alloc (by simp) _)) _ (m + 1) (m + 1) _ (zeros_rd (wr.drewN nq) (m + 1)) HOK.out.2.2.2.2.2.1 HOK.out.1).mono ?_; rintro e w7 ⟨z, D7, M7, L7, tv7, rfl, hlv7, hcase⟩; have HV7 := Lib.hid hlv7; clear hlv7; rw [← HRR.out, ← HUU.out] at hcase; obtain rfl : z = 50 := (by rcases hcase with h | h | h <;> omega); clear hcase))
          all_goals go_ret
          all_goals exact ⟨rfl, HV7.out.below⟩
        | false =>
          go_wp2_with (first
            | (go_at_call 16; refine (left_any _ _ l b L tv HV.out.log).mono ?_; rw [HMM.out]; rintro e w6 ⟨rfl, nq, rfl⟩)
            | (at_make; (refine wpList_make_row _ rfl (.tmp 120) (.tmp 120) 36 rfl 5 i0 (.int .u8 0) 1 Try.underlying36 hi hz0 hz1 hz2 rfl .i64 .i64 _ _ (m) rfl rfl rfl rfl (by omega) (by unfold maxLen; omega) ?_))
            | (go_at_call 14; refine (append_live w _ b l y.n y.size y.first y.count y.ep _ _ L tv (HV.out.turn ((below_drewN (Below.refl _ wr) nq).alloc (by simp) _)) _ (m) (m) _ (zeros_rd (wr.drewN nq) (m)) HOK.out.2.2.2.2.2.1 HOK.out.1).mono ?_; rintro e w7 ⟨z, D7, M7, L7, tv7, rfl, hlv7, hcase⟩; have HV7 := Lib.hid hlv7; clear hlv7; rw [← HRR.out, ← HUU.out] at hcase; obtain ⟨rfl, hu7⟩ : z = 0 ∧ L7.used = u + (2 + m) := (by rcases hcase with h | h | h <;> omega); clear hcase; have hru7 := rest_used HV7.out.log.ok; rw [HV7.out.count, HV7.out.room, ← HPP.out] at hru7; have HM7 : Hid (min 1024 (L7.restN - 2) = 0) := (by show _ = _; omega); clear hru7 hu7)
            | (go_at_call 16; refine (left_any _ _ l b L7 tv7 HV7.out.log).mono ?_; rw [HM7.out]; rintro e w8 ⟨rfl, nq8, rfl⟩))
          all_goals go_ret
          all_goals exact ⟨rfl, below_drewN HV7.out.below _⟩
      · cases more with
        | true =>
          go_wp2_with (first
            | (go_at_call 16; refine (left_any _ _ l b L tv HV.out.log).mono ?_; rw [HMM.out]; rintro e w6 ⟨rfl, nq, rfl⟩)
            | (at_make; (refine wpList_make_row _ rfl (.tmp 102) (.tmp 102) 36 rfl 5 i0 (.int .u8 0) 1 Try.underlying36 hi hz0 hz1 hz2 rfl .i64 .i64 _ _ (1025) rfl rfl rfl rfl (by omega) (by unfold maxLen; omega) ?_))
            | (go_at_call 14; refine (append_live w _ b l y.n y.size y.first y.count y.ep _ _ L tv (HV.out.turn ((below_drewN (Below.refl _ wr) nq).alloc (by simp) _)) _ (1025) (1025) _ (zeros_rd (wr.drewN nq) (1025)) HOK.out.2.2.2.2.2.1 HOK.out.1).mono ?_; rintro e w7 ⟨z, D7, M7, L7, tv7, rfl, hlv7, hcase⟩; have HV7 := Lib.hid hlv7; clear hlv7; rw [← HRR.out, ← HUU.out] at hcase; obtain rfl : z = 51 := (by rcases hcase with h | h | h <;> omega); clear hcase))
          all_goals go_ret
          all_goals exact ⟨rfl, HV7.out.below⟩
        | false =>
          go_wp2_with (first
            | (go_at_call 16; refine (left_any _ _ l b L tv HV.out.log).mono ?_; rw [HMM.out]; rintro e w6 ⟨rfl, nq, rfl⟩)
            | (at_make; (refine wpList_make_row _ rfl (.tmp 120) (.tmp 120) 36 rfl 5 i0 (.int .u8 0) 1 Try.underlying36 hi hz0 hz1 hz2 rfl .i64 .i64 _ _ (1024) rfl rfl rfl rfl (by omega) (by unfold maxLen; omega) ?_))
            | (go_at_call 14; refine (append_live w _ b l y.n y.size y.first y.count y.ep _ _ L tv (HV.out.turn ((below_drewN (Below.refl _ wr) nq).alloc (by simp) _)) _ (1024) (1024) _ (zeros_rd (wr.drewN nq) (1024)) HOK.out.2.2.2.2.2.1 HOK.out.1).mono ?_; rintro e w7 ⟨z, D7, M7, L7, tv7, rfl, hlv7, hcase⟩; have HV7 := Lib.hid hlv7; clear hlv7; rw [← HRR.out, ← HUU.out] at hcase; obtain rfl : z = 0 := (by rcases hcase with h | h | h <;> omega); clear hcase))
          all_goals go_ret
          all_goals exact ⟨rfl, HV7.out.below⟩
end Go.Proofs.Ytenommboacjopaa
