/- arborref5.Sector, Piece, Stream by their contracts. -/
import Derived.Test.YtenommboacjopaaRef2
namespace Go.Proofs.Ytenommboacjopaa
open Go.RowKit

theorem Only.no {w w' : World} {B : Nat} (h : Only (fun k => (Value.slice none 0 0).ownBlock = some k) w w') (hB : B ≤ w.heap.size) : Below B w w' := h.below (fun k hk => by cases hk) hB

set_option maxRecDepth 100000 in
set_option maxHeartbeats 1000000 in
theorem rsector_any (k epoch n c m : Nat) (A : Option Addr) (piece : List UInt8) (w : World) (hr : RdB w A n piece) (hk : k < 65536) (hn : n + 13 ≤ m) (hm : m ≤ 8188) (hep : epoch < 18446744073709551616) :
    Calls Try.prog 26 #[.int .i64 (k : Int), .int .u64 (epoch : Int), .slice A n c, .int .i64 ((m : Int) + 4)] w (RetB w (lSec (m + 4) epoch k piece)) := by
  have HR := Lib.hid hr
  have HEP := Lib.hid hep
  have HKK := Lib.hid hk
  have HLS : Hid (lSec (m + 4) epoch k piece = sealB 87 epoch (leB k 2 ++ piece) m) := rfl
  clear hr hep
  go_enter Try.func26, Try.ntmps26
  go_wp2_with (go_at_call 52; refine (addu16_any w.heap.size (.slice none 0 0) [] k w (World.ownsRow_nil _ _ _ _) (Nat.le_refl _) HKK.out (by simp)).mono ?_)
  rintro e W1 ⟨A1, c1, rfl, hown, hon, _⟩
  have hl : ([] ++ leB k 2).length = 2 := by rw [List.nil_append, leB_length]
  rw [hl] at hown
  rw [hl]
  have HK1 : Hid (W1.ownsRow w.heap.size 5 1 (.slice A1 2 c1) 2 ((leB k 2).map bv)) := hown
  have HO1 : Hid (Below w.heap.size w W1) := Only.no hon (Nat.le_refl _)
  have HR1 : Hid (RdB W1 A n piece) := HR.out.below HO1.out
  have hS1 : w.heap.size ≤ W1.heap.size := HO1.out.size
  clear hown hon hl
  go_wp2_with (at_builtin; refine wpList_append_bytes rfl (.tmp 15) (.tmp 16) rfl w.heap.size 2 _ (leB k 2) rfl HK1.out A n c piece rfl HR1.out (by omega) hS1 ?_)
  intro A2 c2 W2 hown hbl
  have HB2 : Hid (RdB W2 A2 (2 + n) (leB k 2 ++ piece)) := Rd.of_own (by show World.ownsRow _ _ _ _ _ _ _; simpa using hown)
  have HO2 : Hid (Below w.heap.size w W2) := HO1.out.trans hbl
  clear hown hbl
  go_wp2_with (go_at_call 53; refine (rseal_any 87 epoch A2 (2 + n) c2 m _ W2 HB2.out hm (by omega) HEP.out).mono ?_)
  rintro e W3 ⟨A3, c3, rfl, hown, hbl⟩
  have HK3 := Lib.hid hown
  have HO3 : Hid (Below w.heap.size w W3) := HO2.out.trans (hbl.mono HO2.out.size)
  have hS2 := HO2.out.size
  clear hown hbl
  go_wp2
  go_ret
  rw [HLS.out]
  exact ⟨A3, c3, rfl, ownsRow_base HK3.out hS2, HO3.out⟩

theorem piece_snoc {s : List UInt8} {a j : Nat} {b : UInt8} (h : s[a + j]? = some b) : ((s.drop a).take (j + 1)) = (s.drop a).take j ++ [b] := by
  rw [List.take_add_one, List.getElem?_drop, h]; rfl

set_option maxRecDepth 100000 in
set_option maxHeartbeats 1000000 in
theorem piece_any (k room n c : Nat) (A : Option Addr) (s : List UInt8) (w : World) (hr : RdB w A n s) (hk : k < 65536) (hm : room ≤ 8192) (hn : n ≤ 1000000000) :
    Calls Try.prog 25 #[.slice A n c, .int .i64 (k : Int), .int .i64 (room : Int)] w (RetB w ((s.drop (k * room)).take room)) := by
  obtain ⟨a, ha⟩ : ∃ a, a = k * room := ⟨_, rfl⟩
  have ha1 : a ≤ 65536 * 8192 := by rw [ha]; exact Nat.mul_le_mul (by omega) hm
  have hz1 : (k : Int) * (room : Int) = (a : Int) := by rw [ha, Int.natCast_mul]
  have hz2 : ((k : Int) + 1) * (room : Int) = (a : Int) + (room : Int) := by rw [Int.add_mul, hz1, Int.one_mul]
  rw [← ha]
  have HR := Lib.hid hr
  have hlen := hr.blen
  have HL := Lib.hid hlen
  clear hr ha hlen
  go_enter Try.func25, Try.ntmps25
  go_wp2
  go_loopw [7, 8] (fun v i wr => ∃ (j : Nat) (A' : Option Addr) (c' : Nat), j ≤ room ∧ (j = 0 ∨ a + j ≤ n) ∧ v = .slice A' j c' ∧ i = .int .i64 ((a : Int) + (j : Int)) ∧ wr.ownsRow w.heap.size 5 1 (.slice A' j c') j (((s.drop a).take j).map bv) ∧ Below w.heap.size w wr) (fun v _ _ => room - sliceLen v)
  case atStart => exact ⟨0, none, 0, Nat.zero_le _, .inl rfl, rfl, by simp, World.ownsRow_nil _ _ _ _, Below.refl _ _⟩
  case round =>
    obtain ⟨j, A6, c6, hj, hj2, rfl, rfl, hown, hb6⟩ := hrel
    have HK6 := Lib.hid hown
    have HO6 := Lib.hid hb6
    have hS6 := hb6.size
    clear hown hb6
    by_cases hlt : j < room
    · by_cases hlt2 : a + j < n
      · obtain ⟨ad, b, rfl, _, hx, hc⟩ := (HR.out.below HO6.out).byte hlt2
        have HX := hx
        go_wp2_with (at_builtin; refine wpList_append_bytes rfl (.tmp 26) (.tmp 31) rfl w.heap.size j _ ((s.drop a).take j) rfl (HK6.out.alloc _) _ 1 1 [b] rfl (rd_byte wr b) (by omega) (by simp; omega) ?_)
        intro A7 c7 W7 hown hbl
        have HB7 : Hid (Below w.heap.size w W7) := (HO6.out.alloc HO6.out.size _).trans hbl
        have HK7 : Hid (W7.ownsRow w.heap.size 5 1 (.slice A7 (j + 1) c7) (j + 1) (((s.drop a).take (j + 1)).map bv)) := by
          show World.ownsRow _ _ _ _ _ _ _
          rw [piece_snoc HX.out, List.map_append]
          simpa using hown
        clear hown hbl hj2
        go_wp2
        refine ⟨⟨j + 1, A7, c7, by omega, .inr (by omega), rfl, by congr 1, HK7.out, HB7.out⟩, ?_⟩
        show room - (j + 1) < room - j
        omega
      · have hlen : ((s.drop a).take room).length = j := by rw [List.length_take, List.length_drop, HL.out]; omega
        have hbs : (s.drop a).take room = (s.drop a).take j := by
          rw [List.take_of_length_le (by rw [List.length_drop, HL.out]; omega), List.take_of_length_le (by rw [List.length_drop, HL.out]; omega)]
        have HLE := Lib.hid hlen
        have HBS := Lib.hid hbs
        clear hlen hbs
        go_wp2
        go_ret
        exact ⟨A6, c6, by rw [HLE.out]; rfl, by rw [HLE.out, HBS.out]; exact HK6.out, HO6.out⟩
    · obtain rfl : j = room := by omega
      have hlen : ((s.drop a).take j).length = j := by rw [List.length_take, List.length_drop, HL.out]; omega
      have HLE := Lib.hid hlen
      clear hlen
      go_wp2
      go_ret
      exact ⟨A6, c6, by rw [HLE.out]; rfl, by rw [HLE.out]; exact HK6.out, HO6.out⟩

/-- A slice of slices of bytes that reads as these lists. -/
structure RowsL (w : World) (R : Option Addr) (rs : List (List UInt8)) : Prop where
  at_ : ∀ (j : Nat) (r : List UInt8), rs[j]? = some r → ∃ ad A c, R = some ad ∧ ad.block < w.heap.size ∧ w.cell? (ad.add j) = some (.slice A r.length c) ∧ RdB w A r.length r
theorem RowsL.below {w w' : World} {R : Option Addr} {rs : List (List UInt8)} (h : RowsL w R rs) (hb : Below w.heap.size w w') : RowsL w' R rs := by
  refine ⟨fun j r hj => ?_⟩
  obtain ⟨ad, A, c, e, hlt, hc, hr⟩ := h.at_ j r hj
  exact ⟨ad, A, c, e, Nat.lt_of_lt_of_le hlt hb.size, (World.cell?_of_block (w := w) (by rw [block_of_add]; exact hb.block _ hlt)).trans hc, hr.below hb⟩

/-- The stream of some records. -/
def streamB (rs : List (List UInt8)) : List UInt8 := rs.flatMap fun r => leB r.length 2 ++ r
theorem streamB_snoc (rs : List (List UInt8)) (r : List UInt8) : streamB (rs ++ [r]) = streamB rs ++ leB r.length 2 ++ r := by simp [streamB]
theorem streamB_take_le (rs : List (List UInt8)) (k : Nat) : (streamB (rs.take k)).length ≤ (streamB rs).length := by
  have h : streamB rs = streamB (rs.take k) ++ streamB (rs.drop k) := by
    rw [streamB, streamB, streamB, ← List.flatMap_append, List.take_append_drop]
  rw [h, List.length_append]; omega

set_option maxRecDepth 100000 in
set_option maxHeartbeats 1000000 in
theorem stream_any (R : Option Addr) (len c : Nat) (rs : List (List UInt8)) (w : World) (hr : RowsL w R rs) (hl : rs.length = len) (hs : (streamB rs).length ≤ 100000000) (h64 : ∀ r ∈ rs, r.length < 65536) :
    Calls Try.prog 24 #[.slice R len c] w (RetB w (streamB rs)) := by
  subst hl
  have HR := Lib.hid hr
  have HS := Lib.hid hs
  have H64 := Lib.hid h64
  have hnl : rs.length ≤ (streamB rs).length := by
    clear hr hs h64 HR HS H64
    induction rs with
    | nil => exact Nat.zero_le _
    | cons r l ih =>
      have e : streamB (r :: l) = leB r.length 2 ++ r ++ streamB l := by simp [streamB]
      rw [e, List.length_append, List.length_append, leB_length, List.length_cons]
      omega
  clear hr h64
  go_enter Try.func24, Try.ntmps24
  go_wp2
  go_loopw [3, 4] (fun v i wr => ∃ (k : Nat) (A' : Option Addr) (c' : Nat), k ≤ rs.length ∧ v = .slice A' (streamB (rs.take k)).length c' ∧ i = .int .i64 (k : Int) ∧ wr.ownsRow w.heap.size 5 1 (.slice A' (streamB (rs.take k)).length c') (streamB (rs.take k)).length ((streamB (rs.take k)).map bv) ∧ Below w.heap.size w wr) (fun _ i _ => rs.length - (intOf i).toNat)
  case atStart => exact ⟨0, none, 0, Nat.zero_le _, rfl, rfl, World.ownsRow_nil _ _ _ _, Below.refl _ _⟩
  case round =>
    obtain ⟨k, A6, c6, hk, rfl, rfl, hown, hb6⟩ := hrel
    have HK6 := Lib.hid hown
    have HO6 := Lib.hid hb6
    have hS6 := hb6.size
    have hle := streamB_take_le rs k
    clear hown hb6
    by_cases hlt : k < rs.length
    · obtain ⟨r, hr⟩ : ∃ r, rs[k]? = some r := ⟨_, List.getElem?_eq_getElem hlt⟩
      obtain ⟨ad, A, cr, rfl, hadl, hcell, hrd⟩ := (HR.out.below HO6.out).at_ k r hr
      have HRK := Lib.hid hr
      have HRD := Lib.hid hrd
      have HAD := Lib.hid hadl
      have HCE := Lib.hid hcell
      have hr6 : r.length < 65536 := H64.out r (List.mem_of_getElem? hr)
      have e1 : rs.take (k + 1) = rs.take k ++ [r] := by rw [List.take_add_one, hr]; rfl
      have HST : Hid (streamB (rs.take (k + 1)) = streamB (rs.take k) ++ leB r.length 2 ++ r) := by show _ = _; rw [e1, streamB_snoc]
      obtain ⟨sb, hsb⟩ : ∃ sb, sb = streamB (rs.take k) := ⟨_, rfl⟩
      rw [← hsb] at HK6 hle HST ⊢
      have HR6 : Hid (r.length < 65536) := hr6
      clear hr hrd hadl e1 hsb
      have HSB : Hid (sb.length ≤ 1000000000) := by show _ ≤ _; omega
      have HOWN2 : Hid (∀ v' w', v' = (.slice A6 sb.length c6 : Value) → Only (fun k => v'.ownBlock = some k) wr w' → Below w.heap.size wr w') := fun v' w' e ho => ho.below (fun k hk => by rw [e] at hk; exact (HK6.out.lt k hk).1) hS6
      go_wp2_with (go_at_call 52; refine (addu16_any w.heap.size _ sb r.length wr HK6.out hS6 HR6.out HSB.out).mono ?_)
      rintro e W1 ⟨A1, c1, rfl, hown, hon, _⟩
      have HB1 : Hid (Below w.heap.size w W1) := HO6.out.trans (HOWN2.out _ W1 rfl hon)
      obtain ⟨T, hT⟩ : ∃ T, T = (sb ++ leB r.length 2).length := ⟨_, rfl⟩
      rw [← hT] at hown ⊢
      have hT2 : T ≤ 1000000000 := by have := HSB.out; rw [hT, List.length_append, leB_length]; omega
      have HK1 := Lib.hid hown
      have HT := Lib.hid hT
      obtain ⟨ad2, A2, cr2, e2, hadl, hcell2, hrd⟩ := (HR.out.below HB1.out).at_ k r HRK.out
      injection e2 with e2
      subst e2
      have HRD2 := Lib.hid hrd
      have hS1 := HB1.out.size
      clear hown hon hT hadl hrd HOWN2
      go_wp2_with (at_builtin; refine wpList_append_bytes rfl (.tmp 18) (.tmp 22) rfl w.heap.size T _ (sb ++ leB r.length 2) rfl HK1.out _ r.length _ r rfl HRD2.out (by omega) hS1 ?_)
      intro A3 c3 W3 hown hbl
      have HB3 : Hid (Below w.heap.size w W3) := HB1.out.trans hbl
      have HLT : Hid ((sb ++ leB r.length 2 ++ r).length = T + r.length) := by show _ = _; rw [List.length_append, ← HT.out]
      have HK3 : Hid (W3.ownsRow w.heap.size 5 1 (.slice A3 (T + r.length) c3) (T + r.length) ((sb ++ leB r.length 2 ++ r).map bv)) := by
        show World.ownsRow _ _ _ _ _ _ _
        simpa using hown
      clear hown hbl
      go_wp2
      refine ⟨⟨k + 1, A3, c3, by omega, by rw [HST.out, HLT.out], by go_num, by rw [HST.out, HLT.out]; exact HK3.out, HB3.out⟩, ?_⟩
      simp [intOf]; omega
    · obtain rfl : k = rs.length := by omega
      go_wp2
      go_ret
      have h := HK6.out
      rw [List.take_length] at h ⊢
      exact ⟨A6, c6, rfl, h, HO6.out⟩
end Go.Proofs.Ytenommboacjopaa
