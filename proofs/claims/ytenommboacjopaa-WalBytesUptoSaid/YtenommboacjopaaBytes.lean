/- arborlaw5.WalBytes walked: it answers true. -/
import Derived.Test.YtenommboacjopaaFull
namespace Go.Proofs.Ytenommboacjopaa
open Go.RowKit

def RetSec (w : World) (size epoch k : Nat) (piece : List UInt8) (e : Ending) (w' : World) : Prop :=
  ∃ ad c, e = .returned (.slice (some ad) size c) ∧ Hid (∀ (j : Nat) v, ((lSec size epoch k piece).map bv)[j]? = some v → w'.cell? (ad.add j) = some v) ∧ Below w.heap.size w w'
theorem lSec_length {size epoch k : Nat} {piece : List UInt8} (h : piece.length + 17 ≤ size) : (lSec size epoch k piece).length = size := by
  rw [lSec, sealB_length (by rw [List.length_append, leB_length]; omega)]
  omega
theorem sector_n (k epoch n c size : Nat) (A : Option Addr) (piece : List UInt8) (w : World) (hr : RdB w A n piece) (hk : k < 65536) (hn : n + 17 ≤ size) (hm : size ≤ 8192) (hep : epoch < 18446744073709551616) :
    Calls Try.prog 26 #[.int .i64 (k : Int), .int .u64 (epoch : Int), .slice A n c, .int .i64 (size : Int)] w (RetSec w size epoch k piece) := by
  obtain ⟨m, rfl⟩ : ∃ m, size = m + 4 := ⟨size - 4, by omega⟩
  have e : ((m + 4 : Nat) : Int) = (m : Int) + 4 := by omega
  rw [e]
  refine (rsector_any k epoch n c m A piece w hr hk (by omega) (by omega) hep).mono ?_
  rintro e' w' ⟨A1, c1, rfl, hown, hb⟩
  have hl := lSec_length (size := m + 4) (epoch := epoch) (k := k) (piece := piece) (by rw [hr.blen]; omega)
  rw [hl] at hown ⊢
  obtain ⟨ad, rfl, _, hc⟩ := (Rd.of_own hown).2 (by omega)
  exact ⟨ad, c1, rfl, hc, hb⟩

/-- copy of bytes onto a block known whole, as a step of a region that draws its order. -/
theorem step_copy_bytes {ops : Array Oper} {o : Oper} {a : Act} {w : World} {K : Act → World → Prop} {Q : Exit → Act → World → Prop} {E : Prop} (hgd : o.guard = none) (d s : Operand)
    (ho : o.op = .call { callee := .builtin .copy, args := #[d, s], argTypes := #[36, 36] })
    (g off dl dc : Nat) (ad : Addr) (n c : Nat) (bs xs : List UInt8) (hd : a.eval d = .slice (some ⟨g, off, none⟩) dl dc) (hs : a.eval s = .slice (some ad) n c)
    (hg : BlkB w g bs) (hl : xs.length = n) (hcell : Hid (∀ (j : Nat) v, (xs.map bv)[j]? = some v → w.cell? (ad.add j) = some v)) (hn : n ≤ dl) (hfit : off + n ≤ bs.length)
    (h : ∀ w', Hid (BlkB w' g (splice bs off xs)) → Hid (Only (fun k => k = g) w w') → K (a.put o.dst (goInt n)) w') :
    if Region.wanted o (yielded ops a.tmps) = true then Oper.wp Try.prog o a w K Q else E := by
  have hw : Region.wanted o (yielded ops a.tmps) = true := by simp [Region.wanted, hgd]
  rw [if_pos hw]
  have hsz : (Try.prog.info? 5).map (·.size) = some 1 := oneU8
  have hrun := run_copy_row (P := Try.prog) w 36 36 o.type 5 g off dl dc ad n c (bs.map bv).toArray 5 (xs.map bv) Try.underlying36 hsz hg (by rw [List.length_map, hl]; exact (Nat.min_eq_left hn).symm) hcell.out (by simp; omega) (map_bv_one _)
  have e : ((bs.map bv).toArray.toList.take off ++ xs.map bv ++ (bs.map bv).toArray.toList.drop (off + (xs.map bv).length)).toArray = ((splice bs off xs).map bv).toArray := by
    rw [← splice_map, List.append_assoc]; rfl
  rw [e, List.length_map, hl] at hrun
  have h2 := h _ (setRow_heap w g _ _ _ _ hg : BlkB _ g (splice bs off xs)) ((Only.refl (fun k => k = g) w).setRow (g := g) (fun _ => rfl) _ : Only (fun k => k = g) w (w.setRow g ((splice bs off xs).map bv).toArray))
  unfold Oper.wp
  simp only [execOp, ho, resolve, invoke, builtin, Sem.run_bind, Sem.run_pure, Result.andThen_ok, List.map_toArray, List.map_cons, List.map_nil, hd, hs, hrun]
  exact h2

/-- The numbers of one sector's place. -/
theorem place_nums {q n size N a f k : Nat} (h1 : size ≤ 1024) (h2 : 1 ≤ size) (hn : n ≤ 85) (hN : N = n * size) (hq : q = f + k) (hqn : q < n) (ha : a = q * size) :
    a < N ∧ ¬ N = a ∧ a + size ≤ N ∧ size ≤ N - a ∧ N ≤ 87040 ∧ IntKind.i64.wrap ((f : Int) + (k : Int)) = (q : Int) ∧ IntKind.i64.wrap ((q : Int) * (size : Int)) = (a : Int) ∧ (a : Int) ≤ (N : Int) ∧ (0 : Int) ≤ (a : Int) := by
  have h := fits (size := size) hqn
  have h3 : n * size ≤ 85 * 1024 := Nat.mul_le_mul hn h1
  have e : (q : Int) * (size : Int) = (a : Int) := by rw [ha, Int.natCast_mul]
  refine ⟨by omega, by omega, by omega, by omega, by omega, ?_, ?_, by omega, by omega⟩
  · rw [wrapi (by omega) (by omega)]; omega
  · rw [e]; exact wrapi (by omega) (by omega)

set_option maxRecDepth 100000 in
set_option maxHeartbeats 4000000 in
theorem bytes_any (w : World) (y : Lay) (R : Option Addr) (len cap : Nat) (hR : RowsB w R len) (hlen : len ≤ maxLen) (hep : y.ep < 18446744073709551616) :
    Calls Try.prog 5 #[layV y, .slice R len cap] w (RetV (.bool true) w) := by
  have HEP := Lib.hid hep
  have HOK := Lib.hid y.ok
  have HML := Lib.hid hlen
  have hz : layV y = .agg #[.int .i64 y.s, .int .i64 y.f, .int .i64 y.c, .int .i64 y.b, .int .u64 (y.ep : Int)] := rfl
  obtain ⟨rs, hl, hrows, hbig⟩ := (hR.below ((Below.refl _ w).alloc (Nat.le_refl _) (.cells #[.int .i64 y.s, .int .i64 y.f, .int .i64 y.c, .int .i64 y.b, .int .u64 (y.ep : Int)] 24))).lists
  have HRO := Lib.hid hrows
  have HLEN := Lib.hid hl
  have HBIG := Lib.hid hbig
  rw [hz]
  clear hz hR hlen hep hrows hl hbig
  have hTL := took_len (y.count * (y.size - 17)) rs
  have hTC := took_count (y.count * (y.size - 17)) rs
  have hTA := took_all (y.count * (y.size - 17)) rs
  obtain ⟨T, hT⟩ : ∃ T, T = (took (y.count * (y.size - 17)) rs).2 := ⟨_, rfl⟩
  rw [← hT] at hTL hTC hTA
  have HT := Lib.hid hT
  have HTA := Lib.hid hTA
  obtain ⟨S, hS⟩ : ∃ S, S = streamB T := ⟨_, rfl⟩
  obtain ⟨n, hn⟩ : ∃ n, n = S.length := ⟨_, rfl⟩
  have HS := Lib.hid hS
  have HN := Lib.hid hn
  have HPM : Hid (n ≤ 64448) := by
    have h1 : y.count * (y.size - 17) ≤ 64 * 1007 := Nat.mul_le_mul HOK.out.2.2.2.2.1 (by have := HOK.out.2.1; omega)
    show _ ≤ _
    rw [hn, hS, ← hTL.1]
    have := hTL.2
    omega
  have H64 : Hid (∀ r ∈ T, r.length < 65536) := fun r hr => by have := (hTA r hr).2; omega
  clear hT hTL hTC hTA hS hn
  obtain ⟨N, hNN⟩ : ∃ N, N = y.n * y.size := ⟨_, rfl⟩
  have hNZ : (y.n : Int) * (y.size : Int) = (N : Int) := by rw [hNN, Int.natCast_mul]
  have hNm : N ≤ 87040 := by
    have h1 : y.n * y.size ≤ 85 * 1024 := Nat.mul_le_mul HOK.out.2.2.2.2.2.2.1 HOK.out.2.1
    omega
  have HNN := Lib.hid hNN
  clear hNN
  obtain ⟨i0, hi, hz0, hz1, hz2⟩ := info_parts infoU8
  have hs17 : (y.size : Int) - 17 = ((y.size - 17 : Nat) : Int) := by have := HOK.out.1; omega
  have hs2 := HOK.out.2.1
  go_enter Try.func5, Try.ntmps5
  go_wp2_with (first
    | (go_at_call 23; refine (full_any _ y R len cap rs HRO.out HLEN.out HML.out HBIG.out).mono ?_; rintro e w1 ⟨b, A, c, A2, c2, D, M, rfl, hfd, hrl, _, hb1⟩; rw [← HT.out] at hfd hrl ⊢; have HFD := Lib.hid hfd; have HRL := Lib.hid hrl; have HB1 : Hid (Below w.heap.size w w1) := ((Below.refl _ w).alloc (Nat.le_refl _) _).trans (hb1.mono (by simp)); have HY1 : Hid (Blk w1 w.heap.size 24 #[.int .i64 y.s, .int .i64 y.f, .int .i64 y.c, .int .i64 y.b, .int .u64 (y.ep : Int)]) := (Blk.new w _ _).below hb1 (by simp); have k0 : w1.cell? ⟨w.heap.size, 0, none⟩ = some (.int .i64 y.s) := HY1.out.at_ 0 rfl; have k1 : w1.cell? ⟨w.heap.size, 1, none⟩ = some (.int .i64 y.f) := HY1.out.at_ 1 rfl; have k2 : w1.cell? ⟨w.heap.size, 2, none⟩ = some (.int .i64 y.c) := HY1.out.at_ 2 rfl; have k3 : w1.cell? ⟨w.heap.size, 3, none⟩ = some (.int .i64 y.b) := HY1.out.at_ 3 rfl; have k4 : w1.cell? ⟨w.heap.size, 4, none⟩ = some (.int .u64 (y.ep : Int)) := HY1.out.at_ 4 rfl; clear hfd hrl hb1)
    | (go_at_call 11; refine (bent_any y _).mono ?_; rintro e w2 ⟨rfl, hb2⟩; have HB2 : Hid (Below w.heap.size w w2) := HB1.out.trans (hb2.mono HB1.out.size); have HFD2 := Lib.hid (HFD.out.below hb2); have HRL2 := Lib.hid (HRL.out.below hb2); have HY2 := Lib.hid (HY1.out.below hb2 HY1.out.lt); clear hb2 k0 k1 k2 k3 k4)
    | (at_make; refine wpList_make_row _ rfl (.tmp 36) (.tmp 36) 36 rfl 5 i0 (.int .u8 0) 1 Try.underlying36 hi hz0 hz1 hz2 rfl .i64 .i64 _ _ N rfl rfl rfl rfl (by omega) (by unfold maxLen; omega) ?_)
    | (go_at_call 24; refine at_calls ?_))
  intro W hW
  obtain ⟨g, hg⟩ : ∃ g, g = w2.heap.size := ⟨_, rfl⟩
  have HBLK : Hid (BlkB W g (layAll (List.replicate N 0) y.size (wantL y.first y.ep (y.size - 17) y.size S 0))) := by rw [hW.out, hg]; exact BlkB.zeros w2 N
  have hbw : Below g w2 W := by rw [hW.out, hg]; exact (Below.refl _ w2).alloc (Nat.le_refl _) _
  have HG := Lib.hid hg
  have HRLW := Lib.hid (HRL2.out.below (by rw [← HG.out]; exact hbw))
  have hgW : g < W.heap.size := HBLK.out.lt
  rw [← hg]
  clear hW hg
  refine (stream_any A T.length c T W HRLW.out rfl (by rw [← HS.out, ← HN.out]; have := HPM.out; omega) H64.out).mono ?_
  rintro e W5 ⟨As, cs, rfl, hown, hb5⟩
  rw [← HS.out, ← HN.out] at hown
  rw [← HS.out, ← HN.out]
  have HST := Lib.hid (Rd.of_own hown)
  have hAs : ∀ ad, As = some ad → ad.block = g → False := fun ad e e2 => by
    rcases hown.2 with ⟨h, _⟩ | ⟨g', cap', cur', h, h2, _⟩
    · injection h with h; rw [e] at h; cases h
    · injection h with h; rw [e] at h; injection h with h; rw [h] at e2; have e3 : g' = g := e2; omega
  have HAS := Lib.hid hAs
  clear hAs
  have HB5 : Hid (Below g w2 W5) := hbw.trans (hb5.mono (by omega))
  have HBL5 := Lib.hid (HBLK.out.below hb5 hgW)
  have hg5 : g < W5.heap.size := HBL5.out.lt
  clear hown hb5 hbw hgW HBLK
  go_wp2_with fail
  go_loopw [15] (fun i wr => ∃ (k : Nat), k ≤ y.count ∧ i = .int .i64 (k : Int) ∧ BlkB wr g (layAll (List.replicate N 0) y.size (wantL y.first y.ep (y.size - 17) y.size S k)) ∧ RdB wr As n S ∧ Below g w2 wr) (fun i _ => y.count - (intOf i).toNat)
  case atStart => exact ⟨0, Nat.zero_le _, rfl, HBL5.out, HST.out, HB5.out⟩
  case round =>
    obtain ⟨k, hk, rfl, hblk, hst, hb6⟩ := hrel
    have HBK := Lib.hid hblk
    have HS6 := Lib.hid hst
    have HB6 := Lib.hid hb6
    have hgr : g < wr.heap.size := hblk.lt
    have hYlt : w.heap.size < g := by rw [HG.out]; exact HY2.out.lt
    have HY6 := Lib.hid (HY2.out.below hb6 hYlt)
    have HFD6 := Lib.hid (HFD2.out.below (by rw [← HG.out]; exact hb6))
    have c4 : wr.cell? ⟨w.heap.size, 4, none⟩ = some (.int .u64 (y.ep : Int)) := HY6.out.at_ 4 rfl
    have hc64 := HOK.out.2.2.2.2.1
    have hs1 := HOK.out.1
    clear hblk hst hb6
    by_cases hlt : k < y.count
    · obtain ⟨p, hp⟩ : ∃ p, p = piece S (y.size - 17) k := ⟨_, rfl⟩
      obtain ⟨pn, hpn⟩ : ∃ pn, pn = p.length := ⟨_, rfl⟩
      have HP := Lib.hid hp
      have HPN := Lib.hid hpn
      have hpl : pn + 17 ≤ y.size := by
        have : p.length ≤ y.size - 17 := by rw [hp]; unfold piece; rw [List.length_take]; omega
        omega
      clear hp hpn
      by_cases hpos : 0 < pn
      · obtain ⟨q, hq⟩ : ∃ q, q = y.first + k := ⟨_, rfl⟩
        obtain ⟨a, ha⟩ : ∃ a, a = q * y.size := ⟨_, rfl⟩
        obtain ⟨m1, m2, m3, m4, m5, m6, m7, m8, m9⟩ := place_nums (n := y.n) hs2 (by omega) HOK.out.2.2.2.2.2.2.1 HNN.out hq (by have := HOK.out.2.2.2.2.2.1; omega) ha
        have HQ := Lib.hid hq
        have HA := Lib.hid ha
        clear hq ha
        go_wp2_with (go_at_call 25; refine (piece_any k (y.size - 17) n cs As S wr HS6.out (by omega) (by omega) (by have := HPM.out; omega)).mono ?_; rintro e w6 ⟨Ap, cp, rfl, hown, hb6⟩; have HPR : Hid (RdB w6 Ap pn p) := (by have h := Rd.of_own hown; rw [show (S.drop (k * (y.size - 17))).take (y.size - 17) = p from HP.out.symm] at h; rw [HPN.out]; exact h); rw [show (S.drop (k * (y.size - 17))).take (y.size - 17) = p from HP.out.symm, ← HPN.out]; have HBK6 := Lib.hid (HBK.out.below hb6 hgr); have HS7 := Lib.hid (HS6.out.below hb6); have HB7 : Hid (Below g w2 w6) := HB6.out.trans (hb6.mono (by omega)); have d4 : w6.cell? ⟨w.heap.size, 4, none⟩ = some (.int .u64 (y.ep : Int)) := (HY6.out.below hb6 HY6.out.lt).at_ 4 rfl; have hg6 : g < w6.heap.size := HBK6.out.lt; clear hown hb6)
        obtain ⟨LL, hLL⟩ : ∃ LL, LL = layAll (List.replicate N 0) y.size (wantL y.first y.ep (y.size - 17) y.size S k) := ⟨_, rfl⟩
        rw [← hLL] at HBK6
        have hLl : LL.length = N := by
          rw [hLL]
          have h := layAll_length (dur := List.replicate N 0) (size := y.size) (n := y.n) (wantL y.first y.ep (y.size - 17) y.size S k) (by rw [List.length_replicate]; exact HNN.out) (wantL_ok HOK.out.2.2.2.2.2.1 (by omega) k hk)
          rw [h]; exact HNN.out.symm
        have HLL := Lib.hid hLL
        have HFIT : Hid (a + y.size ≤ LL.length) := by show _ ≤ _; omega
        have HSL : Hid ((lSec y.size y.ep k p).length = y.size) := lSec_length (by rw [← HPN.out]; exact hpl)
        clear hLL hLl
        go_region_law (first
          | (refine step_copy_bytes (by rfl) (.tmp 59) (.tmp 65) (by rfl) g a (N - a) (N - a) ad7 y.size c7 LL (lSec y.size y.ep k p) (by rfl) (by rfl) HBK7.out HSL.out hc7 m4 HFIT.out ?_; intro w8 hw8 ho8)
          | (go_simp; go_at_call 26; refine (sector_n k y.ep pn cp y.size Ap p w6.drew (HPR.out.drew) (by omega) hpl (by omega) HEP.out).mono ?_; rintro e w7 ⟨ad7, c7, rfl, hc7, hb7⟩; have HBK7 : Hid (BlkB w7 g LL) := Blk.below (w := w6.drew) HBK6.out hb7 hg6; have HB8 := Lib.hid hb7; clear hb7))
        all_goals (rename_i K hK; refine hK _ _ ?_; clear hK)
        all_goals (
          have HB9 : Hid (Below g w2 w8) := (HB7.out.trans ((show Below w6.heap.size w6 w7 from ((Below.refl _ w6).drew).trans HB8.out).mono (Nat.le_of_lt hg6))).trans (ho8.out.below (fun j e => Nat.le_of_eq (Eq.symm e)) (Nat.le_of_lt HBK7.out.lt))
          have HS9 : Hid (RdB w8 As n S) := by
            have h7 : RdB w7 As n S := (Rd.drew HS7.out).below HB8.out
            refine h7.only ho8.out (fun ad e e2 => ?_)
            exact HAS.out ad e e2
          go_wp2
          refine ⟨⟨k + 1, by omega, by go_num, ?_, HS9.out, HB9.out⟩, ?_⟩
          · have e : wantL y.first y.ep (y.size - 17) y.size S (k + 1) = wantL y.first y.ep (y.size - 17) y.size S k ++ [(y.first + k, lSec y.size y.ep k (piece S (y.size - 17) k))] := by
              rw [wantL, if_pos (by rw [← HP.out, ← HPN.out]; exact hpos)]
            rw [e, layAll_snoc, ← HLL.out]
            show BlkB w8 g (splice LL ((y.first + k) * y.size) (lSec y.size y.ep k (piece S (y.size - 17) k)))
            rw [← HQ.out, ← HA.out, ← HP.out]
            exact hw8.out
          · simp [intOf]; omega)
      · go_wp2_with (go_at_call 25; refine (piece_any k (y.size - 17) n cs As S wr HS6.out (by omega) (by omega) (by have := HPM.out; omega)).mono ?_; rintro e w6 ⟨Ap, cp, rfl, hown, hb6⟩; rw [show (S.drop (k * (y.size - 17))).take (y.size - 17) = p from HP.out.symm, ← HPN.out]; have HBK6 := Lib.hid (HBK.out.below hb6 hgr); have HS7 := Lib.hid (HS6.out.below hb6); have HB7 : Hid (Below g w2 w6) := HB6.out.trans (hb6.mono (by omega)); clear hown hb6)
        refine ⟨⟨k + 1, by omega, by go_num, ?_, HS7.out, HB7.out⟩, ?_⟩
        · have e : wantL y.first y.ep (y.size - 17) y.size S (k + 1) = wantL y.first y.ep (y.size - 17) y.size S k := by
            rw [wantL, if_neg (by rw [← HP.out, ← HPN.out]; exact hpos)]
          rw [e]; exact HBK6.out
        · simp [intOf]; omega
    · obtain rfl : k = y.count := by omega
      have hlen : D.n * D.size = N := by rw [HFD.out.n, HFD.out.size]; exact HNN.out.symm
      have hdl : D.dur.length = N := by rw [HFD.out.dk.ok.len]; exact hlen
      have hwant : layAll (List.replicate N 0) y.size (wantL y.first y.ep (y.size - 17) y.size S y.count) = D.dur := by rw [HFD.out.dur, HNN.out, HS.out]
      rw [hwant] at HBK
      have HDN := Lib.hid hlen
      have HX : Hid (RdB (wr.alloc (.cells (D.dur.map bv).toArray 5)) (some ⟨wr.heap.size, 0, none⟩) N D.dur) := Rd.of_blk (Blk.new wr 5 (D.dur.map bv).toArray) (by simp; exact hdl) (by rw [List.take_of_length_le (by simp; omega)])
      have HZ : Hid (RdB (wr.alloc (.cells (D.dur.map bv).toArray 5)) (some ⟨g, 0, none⟩) N D.dur) := Rd.of_blk (HBK.out.alloc _) (by simp; exact hdl) (by rw [List.take_of_length_le (by simp; omega)])
      clear hlen hdl hwant
      go_wp2_with (first
        | (go_at_call 28; refine (image_any wr _ b D M HFD6.out.dk).mono ?_; rw [HDN.out]; rintro e w7 ⟨rfl, rfl⟩)
        | (go_at_call 27; refine (eq_any _ _ N N N N D.dur D.dur _ HX.out HZ.out (by unfold maxLen; omega) (by unfold maxLen; omega)).mono ?_; rw [decide_eq_true rfl]; rintro e w8 ⟨rfl, nq, rfl⟩))
      go_ret
      refine ⟨rfl, ?_⟩
      have hb : Below w.heap.size w wr := HB2.out.trans (HB6.out.mono (by omega))
      exact below_drewN (hb.alloc hb.size _) nq
end Go.Proofs.Ytenommboacjopaa
