/- (*wal.reader).read by its contract. -/
import Derived.Test.YtenommboacjopaaRead0
import Derived.Test.YtenommboacjopaaDisk2
import Derived.Test.YtenommboacjopaaOpen
import Derived.Deep.CutRange
namespace Go.Proofs.Ytenommboacjopaa
open Go.RowKit

def RetRd (Bd b Br rb first count room epoch : Nat) (D : Dk) (M : DkM) (R : Rst) (hv : Value) (R' : Rst) (at_' : Nat) (w : World) (e : Ending) (w' : World) : Prop :=
  (∃ v, e = .returned v) ∧ RdPost Bd b Br rb first count room epoch D M R hv R' at_' w w'

theorem holds_length {D : Dk} {k : Nat} (h : DkOk D) (hk : k < D.n) : (D.holds k).length = D.size := by
  unfold Dk.holds
  rcases latest_lastW D.wait k with ⟨_, h2⟩ | ⟨i, p, _, h2, _, h4⟩
  · rw [h2]
    exact sec_len h.len hk
  · rw [h4]
    exact (h.wt p (List.mem_of_getElem? h2)).2
theorem open_n (A : Option Addr) (size c : Nat) (bs : List UInt8) (w : World) (hr : RdB w A size bs) (h8 : size ≤ 8192) (h15 : 15 ≤ size) (hc : size ≤ c) (hcm : c ≤ maxLen) :
    Calls Try.prog 103 #[.slice A size c] w (RetOpen w (openB bs)) := by
  obtain ⟨m, rfl⟩ : ∃ m, size = m + 4 := ⟨size - 4, by omega⟩
  exact open_any A m c bs w hr (by omega) (by omega) hc hcm

theorem rd_done {w W : World} {Bd b Br rb first count room epoch at_ : Nat} {D : Dk} {M : DkM} {R R' : Rst} {hv hv' : Value} (H : ReadAt w Bd b Br rb first count room epoch D M R at_ hv) (h1 : R'.reads = R.reads + 1) (h2 : R.reads < count) (h3 : R.all.length ≤ R'.all.length) (h4 : R'.all.length ≤ R.all.length + room)
    (hd : DiskAt W Bd b { D with rd := D.rd + 1 } M) (hb : Blk W rb 131 (rdCells b first count room epoch R' hv')) (hm : MidB W Br hv' (R'.all.drop at_)) (ho : Only (rdFoot b rb hv) w W) (hg : ∀ g, blkOf hv' = some g → blkOf hv = some g ∨ w.heap.size ≤ g) :
    RdPost Bd b Br rb first count room epoch D M R hv R' at_ w W := by
  refine ⟨hv', ⟨?_, H.alive, H.fits, H.size, H.c64, H.foot, hb, H.rbB, hm, Nat.le_trans H.le h3, by omega, ?_⟩, ho, hg⟩
  · rw [h1, Nat.add_sub_cancel_left]; exact hd
  · rw [h1, Nat.succ_mul]; have := H.len; omega
theorem rd1_none {sec : Nat → List UInt8} {count room epoch : Nat} {R : Rst} (h : R.reads < count) (hp : pieceO epoch R.reads (sec R.reads) = none) : rd1 sec count room epoch R = ⟨R.reads + 1, false, R.all⟩ := by
  rw [rd1, if_neg (by omega), hp]
theorem rd1_some {sec : Nat → List UInt8} {count room epoch : Nat} {R : Rst} {p : List UInt8} (h : R.reads < count) (hp : pieceO epoch R.reads (sec R.reads) = some p) : rd1 sec count room epoch R = ⟨R.reads + 1, decide (p.length = room), R.all ++ p⟩ := by
  rw [rd1, if_neg (by omega), hp]

/-- Behind the read of a sector. -/
structure RdMid (w W3 : World) (Bd b Br rb first count room epoch at_ : Nat) (D : Dk) (M : DkM) (R : Rst) (hv : Value) (q g : Nat) : Prop where
  sec : BlkB W3 g (D.holds q)
  dk : DiskAt W3 Bd b { D with rd := D.rd + 1 } M
  only : Only (rdFoot b rb hv) w W3
  blk : Blk W3 rb 131 (rdCells b first count room epoch { R with more := false } hv)
  row : MidB W3 Br hv (R.all.drop at_)
theorem or16 (a b : Nat) (ha : a < 256) (hb : b < 256) : bits .or .i64 (wrap64 (a : Int)) (wrap64 (wrap64 (b : Int) * 256)) = ((a + 256 * b : Nat) : Int) := by
  rw [wrap64_in (x := (a : Int)) (by omega) (by omega), wrap64_in (x := (b : Int)) (by omega) (by omega), wrap64_in (by omega) (by omega)]
  have e1 : (b : Int) * 256 = ((256 * b : Nat) : Int) := by omega
  have e2 : a ||| 256 * b = a + 256 * b := by
    have h2 : 256 * b = 2 ^ 8 * b := rfl
    rw [Nat.or_comm, h2, ← Nat.two_pow_add_eq_or_of_lt (by omega), Nat.add_comm]
  rw [e1]
  show IntKind.i64.wrap ((BitVec.ofInt 64 (a : Int) ||| BitVec.ofInt 64 ((256 * b : Nat) : Int)).toNat : Int) = _
  rw [BitVec.toNat_or, BitVec.ofInt_natCast, BitVec.ofInt_natCast, BitVec.toNat_ofNat, BitVec.toNat_ofNat, Nat.mod_eq_of_lt (by omega), Nat.mod_eq_of_lt (by omega), e2]
  exact wrapi (by omega) (by omega)

set_option maxRecDepth 100000 in
set_option maxHeartbeats 4000000 in
theorem readR_any (w : World) (Bd b Br rb first count room epoch at_ : Nat) (D : Dk) (M : DkM) (R : Rst) (hv : Value) (h : ReadAt w Bd b Br rb first count room epoch D M R at_ hv) :
    Calls Try.prog 99 #[.pointer (some ⟨rb, 0, none⟩)] w (RetRd Bd b Br rb first count room epoch D M R hv (rd1 (secOf D first) count room epoch R) at_ w) := by
  obtain ⟨Ah, ch, rfl⟩ := h.row.form
  have H := Lib.hid h
  obtain ⟨n1, n2, n3, n4⟩ := h.n2
  have hnl : (R.all.drop at_).length ≤ 64448 := by rw [List.length_drop]; omega
  obtain ⟨nh, hnh⟩ : ∃ nh, nh = (R.all.drop at_).length := ⟨_, rfl⟩
  rw [← hnh] at H hnl ⊢
  have HNH := Lib.hid hnh
  clear hnh
  obtain ⟨hv, hhv⟩ : ∃ hv : Value, hv = .slice Ah nh ch := ⟨_, rfl⟩
  rw [← hhv] at H ⊢
  have HHV := Lib.hid hhv
  clear hhv
  have hrc := h.reads
  have hc64 := h.c64
  have hfit := h.fits
  have hsize := h.size
  clear h
  have f6 := H.out.blk.frozen 6
  go_enter Try.func99, Try.ntmps99
  have c6 : w.cell? ⟨rb, 6, none⟩ = some (.bool R.more) := H.out.blk.at_ 6 rfl
  go_wp2_with fail
  refine at_world ?_
  intro W hW
  have HB1 : Hid (Blk W rb 131 (rdCells b first count room epoch { R with more := false } hv)) := by rw [hW.out]; exact H.out.blk.set_ 6 _
  have HO1 : Hid (Only (fun k => k = rb) w W) := by rw [hW.out]; exact (Only.refl (fun k => k = rb) w).setCell (p := ⟨rb, 6, none⟩) (fun _ => rfl) _
  clear hW c6 f6
  have c0 : W.cell? ⟨rb, 0, none⟩ = some (.pointer (some ⟨b, 0, none⟩)) := HB1.out.at_ 0 rfl
  have c1 : W.cell? ⟨rb, 1, none⟩ = some (.int .i64 (first : Int)) := HB1.out.at_ 1 rfl
  have c2 : W.cell? ⟨rb, 2, none⟩ = some (.int .i64 (count : Int)) := HB1.out.at_ 2 rfl
  have c5 : W.cell? ⟨rb, 5, none⟩ = some (.int .i64 (R.reads : Int)) := HB1.out.at_ 5 rfl
  by_cases hend : R.reads = count
  · have HRC := Lib.hid hend
    have HE : Hid (rd1 (secOf D first) count room epoch R = { R with more := false }) := by show _ = _; rw [rd1, if_pos (by omega)]
    rw [hend] at c5
    go_wp2_with fail
    go_quiet (fail)
    go_wp2
    go_end0
    refine ⟨⟨_, rfl⟩, ?_⟩
    rw [HE.out]
    have hon : Only (rdFoot b rb hv) w (W.drewN nq) := (HO1.out.mono (fun k _ e => .inr (.inl e))).drewN nq
    refine ⟨hv, ⟨?_, H.out.alive, hfit, hsize, hc64, H.out.foot, HB1.out.drewN nq, H.out.rbB, ?_, H.out.le, H.out.reads, H.out.len⟩, hon, fun g hg => .inl hg⟩
    · have hd := H.out.dk.only HO1.out (fun k hk e => by have h1 := H.out.foot k hk; have h2 := H.out.rbB; have e2 : k = rb := e; omega)
      rw [Nat.sub_self, Nat.add_zero]
      exact hd.drewN nq
    · exact (H.out.row.only HO1.out (fun g hg => (H.out.ne_row g hg).1)).keep (fun _ _ => rfl)
  · have hlt : R.reads < count := by omega
    have hne := H.out.ne_b
    have HD1 : Hid (DiskAt W Bd b D M) := H.out.dk.only HO1.out (fun k hk e => by have h1 := H.out.foot k hk; have h2 := H.out.rbB; have e2 : k = rb := e; omega)
    have HM1 : Hid (MidB W Br hv (R.all.drop at_)) := H.out.row.only HO1.out (fun g hg => (H.out.ne_row g hg).1)
    have x1 : IntKind.i64.wrap ((first : Int) + (R.reads : Int)) = ((first + R.reads : Nat) : Int) := by rw [wrapi (by omega) (by omega)]; omega
    obtain ⟨q, hq⟩ : ∃ q, q = first + R.reads := ⟨_, rfl⟩
    rw [← hq] at x1
    have hqn : q < D.n := by omega
    have HQ := Lib.hid hq
    clear hq
    go_wp2_with fail
    go_quiet (fail)
    go_wp2_with fail
    refine at_world ?_
    intro W1 hW1
    have d0 : W1.cell? ⟨rb, 0, none⟩ = some (.pointer (some ⟨b, 0, none⟩)) := by rw [hW1.out]; exact HB1.out.at_ 0 rfl
    have d1 : W1.cell? ⟨rb, 1, none⟩ = some (.int .i64 (first : Int)) := by rw [hW1.out]; exact HB1.out.at_ 1 rfl
    have d5 : W1.cell? ⟨rb, 5, none⟩ = some (.int .i64 (R.reads : Int)) := by rw [hW1.out]; exact HB1.out.at_ 5 rfl
    have HD2 : Hid (DiskAt W1.drew Bd b D M) := by rw [hW1.out]; exact (HD1.out.drewN nq).drewN 1
    have HM2 : Hid (MidB W1 Br hv (R.all.drop at_)) := by rw [hW1.out]; exact HM1.out.keep (fun _ _ => rfl)
    have HB2 : Hid (Blk W1 rb 131 (rdCells b first count room epoch { R with more := false } hv)) := by rw [hW1.out]; exact HB1.out.drewN nq
    have HO2 : Hid (Only (fun k => k = rb) w W1) := by rw [hW1.out]; exact HO1.out.drewN nq
    clear hW1 c0 c1 c2 c5 HB1 HO1 HD1 HM1
    go_cut [2, 3] from 10 to 38 (fun s2 s3 W3 => ∃ g, s2 = .slice (some ⟨g, 0, none⟩) D.size D.size ∧ s3 = .int .i64 0 ∧ RdMid w W3 Bd b Br rb first count room epoch at_ D M R hv q g)
    case first =>
      go_region_law (go_simp; go_at_call 102; refine (read_any W1.drew Bd b D M q HD2.out H.out.alive hqn).mono ?_; rintro e W3 ⟨g, hg, rfl, hblk, hd3, ho3⟩)
      all_goals (rename_i K hK; refine hK _ _ ?_; clear hK)
      all_goals (
        go_simp
        go_meet
        refine ⟨g, rfl, rfl, hblk, hd3, (HO2.out.mono (fun k _ e => .inr (.inl e))).drew.trans ho3 (fun k _ e => .inl e), HB2.out.drew.only ho3 hne, (HM2.out.keep (w' := W1.drew) (fun _ _ => rfl)).only ho3 (fun j hj => (H.out.ne_row j hj).2.1)⟩)
    case rest =>
      obtain ⟨g, rfl, rfl, hmid⟩ := hcut
      obtain ⟨W3, hW3⟩ : ∃ W3, W3 = wc := ⟨_, rfl⟩
      rw [← hW3] at hmid ⊢
      clear hW3
      have HBs := Lib.hid hmid.sec
      have HD3 := Lib.hid hmid.dk
      have HO3 := Lib.hid hmid.only
      have HB3 := Lib.hid hmid.blk
      have HM3 := Lib.hid hmid.row
      have c5 : W3.cell? ⟨rb, 5, none⟩ = some (.int .i64 (R.reads : Int)) := HB3.out.at_ 5 rfl
      have f5 := HB3.out.frozen 5
      have hr1 : wrap64 ((R.reads : Int) + 1) = (R.reads : Int) + 1 := wrap64_in (by omega) (by omega)
      clear hmid d0 d1 d5 x1
      go_wp2_with (go_at_call 103; refine at_calls ?_)
      intro W4 hW4
      have HB4 : Hid (Blk W4 rb 131 (rdCells b first count room epoch ⟨R.reads + 1, false, R.all⟩ hv)) := by
        rw [hW4.out]
        have h := HB3.out.set_ 5 (.int .i64 (((R.reads + 1 : Nat)) : Int))
        exact h
      have hon : Only (fun k => k = rb) W3 W4 := by rw [hW4.out]; exact (Only.refl (fun k => k = rb) W3).setCell (p := ⟨rb, 5, none⟩) (fun _ => rfl) _
      have HO4 : Hid (Only (rdFoot b rb hv) w W4) := HO3.out.trans hon (fun k _ e => .inr (.inl e))
      have HD4 : Hid (DiskAt W4 Bd b { D with rd := D.rd + 1 } M) := HD3.out.only hon (fun k hk e => by have h1 := H.out.foot k hk; have h2 := H.out.rbB; have e2 : k = rb := e; omega)
      have HM4 : Hid (MidB W4 Br hv (R.all.drop at_)) := HM3.out.only hon (fun j hj => (H.out.ne_row j hj).1)
      have HS4 : Hid (RdB W4 (some ⟨g, 0, none⟩) D.size (D.holds q)) := by
        have hgb := HBs.out.only hon (HBs.out.ne_ HB3.out (by decide))
        have hl : (D.holds q).length = D.size := holds_length H.out.dk.ok hqn
        have h := hgb.rdB (off := 0) (n := D.size) (by omega)
        rw [List.drop_zero, List.take_of_length_le (by omega)] at h
        exact h
      clear hW4 hon c5 f5 HB3 HO3 HD3 HM3 HBs
      refine (open_n (some ⟨g, 0, none⟩) D.size D.size (D.holds q) W4 HS4.out (by omega) (by omega) (Nat.le_refl _) (by unfold maxLen; omega)).mono ?_
      rcases ho : openB (D.holds q) with _ | ⟨kind, gen, body⟩
      · rintro e W5 ⟨hb5, he⟩
        obtain rfl := he
        have HPN : Hid (pieceO epoch R.reads (secOf D first R.reads) = none) := by show _ = _; rw [secOf, ← HQ.out, pieceO, ho]
        have HB5 := Lib.hid hb5
        clear hb5 ho
        go_wp2
        go_quiet (fail)
        go_wp2
        refine bodyPost_ret (results_none rfl _ _ _) rfl ⟨⟨_, rfl⟩, ?_⟩
        rw [rd1_none hlt HPN.out]
        have hbf : ∀ n, Below W4.heap.size W4 ((W5.alloc (.cells #[.int .u8 0, .int .u64 0, .slice none 0 0] 116)).drewN n) := fun n => below_drewN (HB5.out.alloc HB5.out.size _) n
        exact rd_done H.out rfl hlt (Nat.le_refl _) (Nat.le_add_right _ _) (HD4.out.below (hbf _)) (HB4.out.below (hbf _) HB4.out.lt) (HM4.out.below (hbf _)) (HO4.out.trans (Only.of_below (F := fun _ => False) (hbf _)) (fun _ _ h => h.elim)) (fun g hg => .inl hg)
      · rintro e W5 ⟨hb5, blk, hblk, hbb, he⟩
        obtain rfl := he
        have hbl := openB_body ho
        have hHl : (D.holds q).length = D.size := holds_length H.out.dk.ok hqn
        rw [hHl] at hbl
        have HOP := Lib.hid ho
        clear ho hHl
        go_wp2_with fail
        refine at_world ?_
        intro W6 hW6
        have HF6 : Hid (Blk W6 W5.heap.size 116 #[.int .u8 (kind.toNat : Int), .int .u64 (gen : Int), .slice (some ⟨blk, 0, none⟩) body.length body.length]) := by rw [hW6.out]; exact Blk.new _ _ _
        have HBB6 : Hid (BlkB W6 blk body) := by rw [hW6.out]; exact hbb.alloc _
        have hb46 : Below W4.heap.size W4 W6 := by rw [hW6.out]; exact hb5.alloc hb5.size _
        have hblk6 : W4.heap.size ≤ blk := hblk
        have HD6 := Lib.hid (HD4.out.below hb46)
        have HB6 := Lib.hid (HB4.out.below hb46 HB4.out.lt)
        have HM6 := Lib.hid (HM4.out.below hb46)
        have HO6 : Hid (Only (rdFoot b rb hv) w W6) := HO4.out.trans (Only.of_below (F := fun _ => False) hb46) (fun _ _ h => h.elim)
        have g0 : W6.cell? ⟨W5.heap.size, 0, none⟩ = some (.int .u8 (kind.toNat : Int)) := HF6.out.at_ 0 rfl
        have g1 : W6.cell? ⟨W5.heap.size, 1, none⟩ = some (.int .u64 (gen : Int)) := HF6.out.at_ 1 rfl
        have g2 : W6.cell? ⟨W5.heap.size, 2, none⟩ = some (.slice (some ⟨blk, 0, none⟩) body.length body.length) := HF6.out.at_ 2 rfl
        have c4 : W6.cell? ⟨rb, 4, none⟩ = some (.int .u64 (epoch : Int)) := HB6.out.at_ 4 rfl
        clear hW6 hb5 hbb hblk hb46 HD4 HB4 HM4 HO4
        by_cases hc : (kind.toNat = 87 ∧ gen = epoch) ∧ 2 ≤ body.length
        · obtain ⟨⟨hc1, hc2⟩, hc3⟩ := hc
          subst hc2
          obtain ⟨b0, hb0⟩ : ∃ b0, body[0]? = some b0 := ⟨_, List.getElem?_eq_getElem (by omega)⟩
          obtain ⟨b1, hb1⟩ : ∃ b1, body[1]? = some b1 := ⟨_, List.getElem?_eq_getElem (by omega)⟩
          have v0 : W6.cell? ⟨blk, 0, none⟩ = some (.int .u8 (b0.toNat : Int)) := HBB6.out.at_ 0 (by simp [hb0, bv])
          have v1 : W6.cell? ⟨blk, 1, none⟩ = some (.int .u8 (b1.toNat : Int)) := HBB6.out.at_ 1 (by simp [hb1, bv])
          have hc1' : (kind.toNat : Int) = 87 := by omega
          rw [hc1'] at g0
          have HLE : Hid (leN (body.take 2) = b0.toNat + 256 * b1.toNat) := by
            show _ = _
            have e : body.take 2 = [b0, b1] := by
              rw [List.take_add_one, List.take_add_one, List.take_zero, hb0, hb1]; rfl
            rw [e]; simp [leN]
          clear hb0 hb1
          obtain ⟨kk, hkk⟩ : ∃ kk, kk = b0.toNat + 256 * b1.toNat := ⟨_, rfl⟩
          have hor := or16 b0.toNat b1.toNat b0.toNat_lt b1.toNat_lt
          rw [← hkk] at hor HLE
          clear hkk
          obtain ⟨np, hnp⟩ : ∃ np, body.length = np + 2 := ⟨body.length - 2, by omega⟩
          rw [hnp] at g2 hbl
          have HNP := Lib.hid hnp
          clear hnp hc3
          have c7 : W6.cell? ⟨rb, 7, none⟩ = some (.slice Ah nh ch) := by rw [← HHV.out]; exact HB6.out.at_ 7 rfl
          by_cases hkr : kk = R.reads
          · have HPS : Hid (pieceO gen R.reads (secOf D first R.reads) = some (body.drop 2)) := by
              show _ = _
              rw [secOf, ← HQ.out, pieceO, HOP.out]
              exact if_pos ⟨by apply UInt8.toNat_inj.1; exact hc1, rfl, by rw [HNP.out]; omega, by rw [HLE.out]; exact hkr⟩
            rw [hkr] at hor
            have f7 := HB6.out.frozen 7
            have f6 := HB6.out.frozen 6
            have HRP0 : Hid (∀ n, np = 0 → RdB (W6.drewN n) (some ⟨blk, 0, none⟩) 0 (body.drop 2)) := fun n h0 => by
              have : body.drop 2 = [] := List.drop_of_length_le (by have := HNP.out; omega)
              rw [this]; exact Rd.nil _ _
            have HRP1 : Hid (∀ n, RdB (W6.drewN n) (some ⟨blk, 2, none⟩) np (body.drop 2)) := fun n => by
              have h := (HBB6.out.drewN n).rdB (off := 2) (n := np) (by rw [HNP.out]; omega)
              rw [List.take_of_length_le (by rw [List.length_drop, HNP.out]; omega)] at h
              exact h
            have hnpb : np ≤ 1024 := by omega
            have HPL : Hid ((body.drop 2).length = np) := by show _ = _; rw [List.length_drop, HNP.out]; omega
            have hnroom : np ≤ room := by omega
            have hroom1 : 1 ≤ room := by have := H.out.dk.ok.s1; omega
            have HFN : Hid (∀ n A' c' W8, MidB W8 Br (.slice A' (nh + np) c') (R.all.drop at_ ++ body.drop 2) → Only (fun k => blkOf (.slice Ah nh ch) = some k) (W6.drewN n) W8 → (blkOf (.slice A' (nh + np) c') = blkOf (.slice Ah nh ch) ∨ blkOf (.slice A' (nh + np) c') = some (W6.drewN n).heap.size) →
                RdPost Bd b Br rb first count room gen D M R hv (rd1 (secOf D first) count room gen R) at_ w ((W8.setCell ⟨rb, 7, none⟩ (.slice A' (nh + np) c')).setCell ⟨rb, 6, none⟩ (.bool ((np : Int) == (room : Int))))) := fun n A' c' W8 hm ho ha => by
              rw [rd1_some hlt HPS.out]
              have hb8 := (HB6.out.drewN n).only ho (fun e => (H.out.ne_row rb (by rw [HHV.out]; exact e)).1 rfl)
              have hd8 := (HD6.out.drewN n).only ho (fun k hk e => (H.out.ne_row k (by rw [HHV.out]; exact e)).2.2 hk)
              have hon : Only (fun k => k = rb) W8 ((W8.setCell ⟨rb, 7, none⟩ (.slice A' (nh + np) c')).setCell ⟨rb, 6, none⟩ (.bool ((np : Int) == (room : Int)))) := ((Only.refl (fun k => k = rb) W8).setCell (p := ⟨rb, 7, none⟩) (fun _ => rfl) _).setCell (p := ⟨rb, 6, none⟩) (fun _ => rfl) _
              have hrow : ∀ g, blkOf (.slice A' (nh + np) c') = some g → blkOf hv = some g ∨ w.heap.size ≤ g := fun g hg => by
                rcases ha with ha | ha
                · exact .inl (by rw [HHV.out, ← ha]; exact hg)
                · rw [ha] at hg
                  injection hg with hg
                  exact .inr (by rw [← hg]; exact HO6.out.size)
              refine rd_done (hv' := .slice A' (nh + np) c') H.out rfl hlt (by simp) (by rw [List.length_append, HPL.out]; omega) (hd8.only hon (fun k hk e => by have h1 := H.out.foot k hk; have h2 := H.out.rbB; have e2 : k = rb := e; omega)) ?_ ?_ ?_ hrow
              · have h := (hb8.set_ 7 (.slice A' (nh + np) c')).set_ 6 (.bool ((np : Int) == (room : Int)))
                rw [HPL.out]
                have hdec : decide (np = room) = ((np : Int) == (room : Int)) := by
                  by_cases hx : np = room
                  · rw [hx]; simp
                  · rw [decide_eq_false hx]; symm; simp; omega
                rw [hdec]
                exact h
              · rw [List.drop_append_of_le_length H.out.le]
                refine hm.only hon (fun g hg e => ?_)
                obtain ⟨cs2, hbk⟩ := hm.blk g hg
                exact hbk.ne_ hb8 (by decide) e
              · exact ((HO6.out.drewN n).trans ho (fun k _ e => .inr (.inr (by rw [HHV.out]; exact e)))).trans hon (fun k _ e => .inr (.inl e))
            have HW8 : Hid (∀ n W8, Only (fun k => blkOf (.slice Ah nh ch) = some k) (W6.drewN n) W8 → W8.cell? ⟨rb, 7, none⟩ = some (.slice Ah nh ch) ∧ W8.frozen? ⟨rb, 7, none⟩ = false ∧ W8.cell? ⟨rb, 3, none⟩ = some (.int .i64 (room : Int)) ∧ W8.cell? ⟨rb, 6, none⟩ = some (.bool false) ∧ W8.frozen? ⟨rb, 6, none⟩ = false) := fun n W8 ho => by
              have hb8 := (HB6.out.drewN n).only ho (fun e => (H.out.ne_row rb (by rw [HHV.out]; exact e)).1 rfl)
              exact ⟨by rw [← HHV.out]; exact hb8.at_ 7 rfl, hb8.frozen 7, hb8.at_ 3 rfl, hb8.at_ 6 rfl, hb8.frozen 6⟩
            have HMM : Hid (∀ n, MidB (W6.drewN n) Br (.slice Ah nh ch) (R.all.drop at_)) := fun n => by rw [← HHV.out]; exact HM6.out.keep (fun _ _ => rfl)
            have HBR : Hid (∀ n, Br ≤ (W6.drewN n).heap.size) := fun n => Nat.le_trans H.out.rbB (Nat.le_of_lt HB6.out.lt)
            clear n1 n2 n3 n4 hsize hfit HD6 HB6 HM6 HO6 HBB6 HF6
            have HXA : Hid (∀ n, Only (fun k => blkOf (.slice Ah nh ch) = some k) (W6.drewN n) (W6.drewN n)) := fun n => Only.refl _ _
            rcases Nat.eq_zero_or_pos np with h0 | h0
            · have HRP2 : Hid (∀ n, RdB (W6.drewN n) (some ⟨blk, 0, none⟩) 0 (body.drop 2)) := fun n => HRP0.out n h0
              subst h0
              have hne0 : ¬ (0 : Int) = (room : Int) := by omega
              have hne1 : ¬ room = 0 := by omega
              go_wp2_with fail
              go_quiet (fail)
              go_wp2_with fail
              go_quiet (fail)
              go_wp2_with (at_builtin; refine at_world_list ?_)
              intro W7 hW7
              obtain ⟨n7, rfl⟩ : ∃ n, W7 = W6.drewN n := ⟨_, hW7.out⟩
              refine wpList_append_mid rfl (.tmp 111) (.tmp 112) rfl Br _ (R.all.drop at_) rfl (HMM.out n7) (some ⟨blk, 0, none⟩) 0 0 (body.drop 2) rfl (HRP2.out n7) (by have := HNH.out; omega) (HBR.out n7) ?_
              intro A8 c8 W8 hm8 ho8 ha8
              rw [← HNH.out] at hm8 ha8 ⊢
              obtain ⟨e7, e7f, e3, e6, e6f⟩ := HW8.out n7 W8 ho8.out
              have hfin := HFN.out n7 A8 c8 W8 hm8.out ho8.out ha8
              have HFI := Lib.hid hfin
              clear hm8 ho8 ha8 hfin hW7
              go_wp2
              go_end0
              refine ⟨⟨_, rfl⟩, ?_⟩
              exact HFI.out
            · (
                go_wp2_with fail
                go_quiet (fail)
                go_wp2_with fail
                go_quiet (fail)
                go_wp2_with (at_builtin; refine at_world_list ?_)
                intro W7 hW7
                obtain ⟨n7, rfl⟩ : ∃ n, W7 = W6.drewN n := ⟨_, hW7.out⟩
                refine wpList_append_mid rfl (.tmp 111) (.tmp 112) rfl Br _ (R.all.drop at_) rfl (HMM.out n7) (some ⟨blk, 2, none⟩) np np (body.drop 2) rfl (HRP1.out n7) (by have := HNH.out; omega) (HBR.out n7) ?_
                intro A8 c8 W8 hm8 ho8 ha8
                rw [← HNH.out] at hm8 ha8 ⊢
                obtain ⟨e7, e7f, e3, e6, e6f⟩ := HW8.out n7 W8 ho8.out
                have hfin := HFN.out n7 A8 c8 W8 hm8.out ho8.out ha8
                have HFI := Lib.hid hfin
                clear hm8 ho8 ha8 hfin hW7
                go_wp2
                go_end0
                refine ⟨⟨_, rfl⟩, ?_⟩
                exact HFI.out)
          · have HPN : Hid (pieceO gen R.reads (secOf D first R.reads) = none) := by
              show _ = _
              rw [secOf, ← HQ.out, pieceO, HOP.out]
              exact if_neg (fun x => hkr (by rw [← x.2.2.2, HLE.out]))
            have hkr' : ¬ (kk : Int) = (R.reads : Int) := by omega
            go_wp2_with fail
            go_quiet (fail)
            go_wp2_with fail
            go_quiet (fail)
            go_wp2
            refine bodyPost_ret (results_none rfl _ _ _) rfl ⟨⟨_, rfl⟩, ?_⟩
            rw [rd1_none hlt HPN.out]
            have hbf : ∀ n, Below W6.heap.size W6 (W6.drewN n) := fun n => below_drewN (Below.refl _ W6) n
            exact rd_done H.out rfl hlt (Nat.le_refl _) (Nat.le_add_right _ _) ((HD6.out.drewN _).drewN _) ((HB6.out.drewN _).drewN _) (HM6.out.keep (fun _ _ => rfl)) ((HO6.out.drewN _).drewN _) (fun g hg => .inl hg)
        · have HPN : Hid (pieceO epoch R.reads (secOf D first R.reads) = none) := by
            show _ = _
            rw [secOf, ← HQ.out, pieceO, HOP.out]
            exact if_neg (fun x => hc ⟨⟨by rw [x.1]; rfl, x.2.1⟩, x.2.2.1⟩)
          have fin : ∀ n, RdPost Bd b Br rb first count room epoch D M R hv (rd1 (secOf D first) count room epoch R) at_ w (W6.drewN n) := fun n => by
            rw [rd1_none hlt HPN.out]
            exact rd_done H.out rfl hlt (Nat.le_refl _) (Nat.le_add_right _ _) (HD6.out.drewN n) (HB6.out.drewN n) (HM6.out.keep (fun _ _ => rfl)) (HO6.out.drewN n) (fun g hg => .inl hg)
          have HFIN := Lib.hid fin
          clear fin
          by_cases hc1 : (kind.toNat : Int) = 87
          · rw [hc1] at g0
            by_cases hc2 : (gen : Int) = (epoch : Int)
            · rw [hc2] at g1
              have hc3 : body.length < 2 := by omega
              go_wp2_with fail
              go_quiet (fail)
              go_wp2
              exact bodyPost_ret (results_none rfl _ _ _) rfl ⟨⟨_, rfl⟩, HFIN.out _⟩
            · go_wp2_with fail
              go_quiet (fail)
              go_wp2
              exact bodyPost_ret (results_none rfl _ _ _) rfl ⟨⟨_, rfl⟩, HFIN.out _⟩
          · go_wp2_with fail
            go_quiet (fail)
            go_wp2
            exact bodyPost_ret (results_none rfl _ _ _) rfl ⟨⟨_, rfl⟩, HFIN.out _⟩
end Go.Proofs.Ytenommboacjopaa
