/- (*wal.reader).record by its contract. -/
import Derived.Test.YtenommboacjopaaRead2
namespace Go.Proofs.Ytenommboacjopaa
open Go.RowKit

/-- The next record behind at_ bytes, if there is one; the reader behind it. -/
def recF (sec : Nat → List UInt8) (count room epoch at_ : Nat) (R : Rst) : Option (List UInt8) × Rst :=
  if (wantF sec count room epoch (at_ + 2) R).all.length < at_ + 2 then (none, wantF sec count room epoch (at_ + 2) R)
  else if leN (((wantF sec count room epoch (at_ + 2) R).all.drop at_).take 2) < 1 ∨ 1024 < leN (((wantF sec count room epoch (at_ + 2) R).all.drop at_).take 2) then (none, wantF sec count room epoch (at_ + 2) R)
  else if (wantF sec count room epoch (at_ + (2 + leN (((wantF sec count room epoch (at_ + 2) R).all.drop at_).take 2))) (wantF sec count room epoch (at_ + 2) R)).all.length < at_ + (2 + leN (((wantF sec count room epoch (at_ + 2) R).all.drop at_).take 2)) then
    (none, wantF sec count room epoch (at_ + (2 + leN (((wantF sec count room epoch (at_ + 2) R).all.drop at_).take 2))) (wantF sec count room epoch (at_ + 2) R))
  else (some (((wantF sec count room epoch (at_ + (2 + leN (((wantF sec count room epoch (at_ + 2) R).all.drop at_).take 2))) (wantF sec count room epoch (at_ + 2) R)).all.drop (at_ + 2)).take (leN (((wantF sec count room epoch (at_ + 2) R).all.drop at_).take 2))),
    wantF sec count room epoch (at_ + (2 + leN (((wantF sec count room epoch (at_ + 2) R).all.drop at_).take 2))) (wantF sec count room epoch (at_ + 2) R))

def RetRec (Bd b Br rb first count room epoch : Nat) (D : Dk) (M : DkM) (R : Rst) (hv : Value) (at_ : Nat) (x : Option (List UInt8) × Rst) (w : World) (e : Ending) (w' : World) : Prop :=
  match x with
  | (none, R') => e = .returned (.tuple #[.slice none 0 0, .bool false]) ∧ ∃ hv', RdTo Bd b Br rb first count room epoch D M R hv R' at_ hv' w w'
  | (some rec, R') => ∃ A c hv', e = .returned (.tuple #[.slice A rec.length c, .bool true]) ∧ 1 ≤ rec.length ∧ rec.length ≤ 1024 ∧ w'.ownsRow w.heap.size 5 1 (.slice A rec.length c) rec.length (rec.map bv) ∧ RdTo Bd b Br rb first count room epoch D M R hv R' (at_ + 2 + rec.length) hv' w w' ∧ ∀ g, blkOf hv' = some g → (Value.slice A rec.length c).ownBlock ≠ some g

theorem recF_none1 {sec : Nat → List UInt8} {count room epoch at_ : Nat} {R R1 : Rst} (h1 : wantF sec count room epoch (at_ + 2) R = R1) (h : R1.all.length < at_ + 2) : recF sec count room epoch at_ R = (none, R1) := by
  rw [recF, h1, if_pos h]
theorem recF_none2 {sec : Nat → List UInt8} {count room epoch at_ n : Nat} {R R1 : Rst} (h1 : wantF sec count room epoch (at_ + 2) R = R1) (h : ¬ R1.all.length < at_ + 2) (hn : leN ((R1.all.drop at_).take 2) = n) (hb : n < 1 ∨ 1024 < n) : recF sec count room epoch at_ R = (none, R1) := by
  rw [recF, h1, hn, if_neg h, if_pos hb]
theorem recF_none3 {sec : Nat → List UInt8} {count room epoch at_ n : Nat} {R R1 R2 : Rst} (h1 : wantF sec count room epoch (at_ + 2) R = R1) (h : ¬ R1.all.length < at_ + 2) (hn : leN ((R1.all.drop at_).take 2) = n) (hb : ¬ (n < 1 ∨ 1024 < n)) (h2 : wantF sec count room epoch (at_ + (2 + n)) R1 = R2) (h3 : R2.all.length < at_ + (2 + n)) :
    recF sec count room epoch at_ R = (none, R2) := by
  rw [recF, h1, hn, if_neg h, if_neg hb, h2, if_pos h3]
theorem recF_some {sec : Nat → List UInt8} {count room epoch at_ n : Nat} {R R1 R2 : Rst} (h1 : wantF sec count room epoch (at_ + 2) R = R1) (h : ¬ R1.all.length < at_ + 2) (hn : leN ((R1.all.drop at_).take 2) = n) (hb : ¬ (n < 1 ∨ 1024 < n)) (h2 : wantF sec count room epoch (at_ + (2 + n)) R1 = R2) (h3 : ¬ R2.all.length < at_ + (2 + n)) :
    recF sec count room epoch at_ R = (some ((R2.all.drop (at_ + 2)).take n), R2) := by
  rw [recF, h1, hn, if_neg h, if_neg hb, h2, if_neg h3]

/-- want, behind what was done before. -/
theorem want_to {w W : World} {Bd b Br rb first count room epoch at_ : Nat} {D : Dk} {M : DkM} {R R1 R2 : Rst} {hv hv1 : Value} (h : RdTo Bd b Br rb first count room epoch D M R hv R1 at_ hv1 w W) (n : Nat) (hn : n ≤ 1000000) (hR : wantF (secOf D first) count room epoch (at_ + n) R1 = R2) {z : Int} (hz : z = (n : Int)) :
    Calls Try.prog 94 #[.pointer (some ⟨rb, 0, none⟩), .int .i64 z] W (fun e w' => e = .returned (.bool (decide (at_ + n ≤ R2.all.length))) ∧ ∃ hv', RdTo Bd b Br rb first count room epoch D M R hv R2 at_ hv' w w') := by
  subst hz
  have h2 := want_any W Bd b Br rb first count room epoch at_ n { D with rd := D.rd + (R1.reads - R.reads) } M R1 hv1 h.rdat hn
  rw [secOf_rd, hR] at h2
  refine h2.mono ?_
  rintro e w' ⟨he, hv', ht⟩
  exact ⟨he, hv', h.trans ht⟩

theorem sum_lt (a b : Nat) (ha : a < 256) (hb : b < 256) : a + 256 * b < 65536 := by omega
theorem MidB.some_ {w : World} {B : Nat} {v : Value} {xs : List UInt8} (h : MidB w B v xs) (h0 : 0 < xs.length) : ∃ g off c, v = .slice (some ⟨g, off, none⟩) xs.length c ∧ xs.length ≤ c ∧ c ≤ maxLen := by
  rcases h with ⟨_, rfl⟩ | ⟨g, off, cap, cs, hv, _, _, _, hn, hm, _⟩
  · simp at h0
  · exact ⟨g, off, cap, hv, hn, hm⟩

theorem rec_done {w W2 : World} {Bd b Br rb first count room epoch at_ n g2 off2 k2 c2 : Nat} {D : Dk} {M : DkM} {R R2 : Rst} {hv : Value} (ht : RdTo Bd b Br rb first count room epoch D M R hv R2 at_ (.slice (some ⟨g2, off2, none⟩) k2 c2) w W2) (hk2 : k2 = (R2.all.drop at_).length) (hn1 : 1 ≤ n) (hkn : 2 + n ≤ k2) (v3 : Value)
    (hv3 : v3 = .slice (some (if c2 = 2 + n then ⟨g2, off2, none⟩ else ⟨g2, off2 + (2 + n), none⟩)) (k2 - (2 + n)) (c2 - (2 + n))) :
    RdTo Bd b Br rb first count room epoch D M R hv R2 (at_ + 2 + n) v3 w (W2.setCell ⟨rb, 7, none⟩ v3) ∧ RdB (W2.setCell ⟨rb, 7, none⟩ v3) (some ⟨g2, off2 + 2, none⟩) n ((R2.all.drop (at_ + 2)).take n) ∧ ∀ g, blkOf v3 = some g → g < (W2.setCell ⟨rb, 7, none⟩ v3).heap.size := by
  have hon : Only (fun k => k = rb) W2 (W2.setCell ⟨rb, 7, none⟩ v3) := (Only.refl (fun k => k = rb) W2).setCell (p := ⟨rb, 7, none⟩) (fun _ => rfl) _
  have hg2 := ht.rdat.ne_row g2 rfl
  have hcut := ht.rdat.row.cut (k := 2 + n) hkn
  rw [← hv3, List.drop_drop, ← Nat.add_assoc] at hcut
  have hbk : blkOf v3 = some g2 := by rw [hv3]; split <;> rfl
  have hle := ht.rdat.le
  have hkl : at_ + k2 = R2.all.length := by rw [hk2, List.length_drop]; omega
  have hm3 : MidB (W2.setCell ⟨rb, 7, none⟩ v3) Br v3 (R2.all.drop (at_ + 2 + n)) := hcut.only hon (fun g hg e => by rw [hbk] at hg; injection hg with hg; exact hg2.1 (hg.trans e))
  refine ⟨⟨⟨ht.rdat.dk.only hon (fun k hk e => by have h1 := ht.rdat.foot k hk; have h2 := ht.rdat.rbB; have e2 : k = rb := e; omega), ht.rdat.alive, ht.rdat.fits, ht.rdat.size, ht.rdat.c64, ht.rdat.foot, ?_, ht.rdat.rbB, hm3, by omega, ht.rdat.reads, ht.rdat.len⟩,
    ht.only.trans hon (fun k _ e => .inr (.inl e)), fun g hg => ht.own g (by rw [hbk] at hg; exact hg), ht.mono⟩, ?_, fun g hg => (hm3.lt g hg).2⟩
  · exact ht.rdat.blk.set_ 7 v3
  · have h1 : RdB W2 (some ⟨g2, off2, none⟩) k2 (R2.all.drop at_) := ht.rdat.row.rd
    have h2 := h1.cut (k := 2) (cap := k2) (by omega) (Nat.le_refl _)
    rw [if_neg (by omega), ← List.map_drop, List.drop_drop] at h2
    have h3 := h2.take (k := n) (by omega)
    rw [← List.map_take] at h3
    have h4 : RdB W2 (some ⟨g2, off2 + 2, none⟩) n ((R2.all.drop (at_ + 2)).take n) := h3
    exact h4.only hon (fun ad e e2 => by injection e with e; rw [← e] at e2; exact hg2.1 e2)

set_option maxRecDepth 100000 in
set_option maxHeartbeats 4000000 in
theorem record_any (w : World) (Bd b Br rb first count room epoch at_ : Nat) (D : Dk) (M : DkM) (R : Rst) (hv : Value) (h : ReadAt w Bd b Br rb first count room epoch D M R at_ hv) :
    Calls Try.prog 75 #[.pointer (some ⟨rb, 0, none⟩)] w (RetRec Bd b Br rb first count room epoch D M R hv at_ (recF (secOf D first) count room epoch at_ R) w) := by
  have H := Lib.hid h
  clear h
  obtain ⟨R1, hR1⟩ : ∃ R1, R1 = wantF (secOf D first) count room epoch (at_ + 2) R := ⟨_, rfl⟩
  have HR1 := Lib.hid hR1
  clear hR1
  go_enter Try.func75, Try.ntmps75
  by_cases h1 : R1.all.length < at_ + 2
  · have HX : Hid (recF (secOf D first) count room epoch at_ R = (none, R1)) := recF_none1 HR1.out.symm h1
    have HDC : Hid (decide (at_ + 2 ≤ R1.all.length) = false) := decide_eq_false (by omega)
    go_wp2_with (go_at_call 94; refine (want_any w Bd b Br rb first count room epoch at_ 2 D M R hv H.out (by omega)).mono ?_; rw [← HR1.out]; rintro e W1 ⟨he, hv1, hto⟩; rw [HDC.out] at he; obtain rfl := he; have HT1 := Lib.hid hto; clear hto)
    go_ret2
    rw [HX.out]
    exact ⟨rfl, hv1, HT1.out⟩
  · have HDC : Hid (decide (at_ + 2 ≤ R1.all.length) = true) := decide_eq_true (by omega)
    go_wp2_with (go_at_call 94; refine (want_any w Bd b Br rb first count room epoch at_ 2 D M R hv H.out (by omega)).mono ?_; rw [← HR1.out]; rintro e W1 ⟨he, hv1, hto⟩; rw [HDC.out] at he; obtain rfl := he; have HT1 := Lib.hid hto; clear hto)
    have hle1 := HT1.out.rdat.le
    obtain ⟨g, off, c1, rfl, hkc, hcm⟩ := HT1.out.rdat.row.some_ (by rw [List.length_drop]; omega)
    obtain ⟨k, hk⟩ : ∃ k, k = (R1.all.drop at_).length := ⟨_, rfl⟩
    have hkl : at_ + k = R1.all.length := by rw [hk, List.length_drop]; omega
    rw [← hk] at HT1 hkc
    have HK := Lib.hid hk
    clear hk
    obtain ⟨x0, hx0⟩ : ∃ x, (R1.all.drop at_)[0]? = some x := ⟨_, List.getElem?_eq_getElem (by rw [← HK.out]; omega)⟩
    obtain ⟨x1, hx1⟩ : ∃ x, (R1.all.drop at_)[1]? = some x := ⟨_, List.getElem?_eq_getElem (by rw [← HK.out]; omega)⟩
    have hrd := HT1.out.rdat.row.rd
    obtain ⟨ad, had, hadl, hcl⟩ := hrd.2 (by omega)
    injection had with had
    subst had
    have v0 : W1.cell? ⟨g, off, none⟩ = some (.int .u8 (x0.toNat : Int)) := by have h := hcl 0 _ (bv_get hx0); rw [add_lit, Nat.add_zero] at h; exact h
    have v1 : W1.cell? ⟨g, off + 1, none⟩ = some (.int .u8 (x1.toNat : Int)) := by have h := hcl 1 _ (bv_get hx1); rw [add_lit] at h; exact h
    have c7 : W1.cell? ⟨rb, 7, none⟩ = some (.slice (some ⟨g, off, none⟩) k c1) := HT1.out.rdat.blk.at_ 7 rfl
    have hk2 : 2 ≤ k := by omega
    obtain ⟨n, hn⟩ : ∃ n, n = x0.toNat + 256 * x1.toNat := ⟨_, rfl⟩
    have hor := or16 x0.toNat x1.toNat x0.toNat_lt x1.toNat_lt
    rw [← hn] at hor
    have HLE : Hid (leN ((R1.all.drop at_).take 2) = n) := by
      show _ = _
      have e : (R1.all.drop at_).take 2 = [x0, x1] := by
        rw [List.take_add_one, List.take_add_one, List.take_zero, hx0, hx1]; rfl
      rw [e, hn]; simp [leN]
    have hnm : n < 65536 := by rw [hn]; exact sum_lt _ _ x0.toNat_lt x1.toNat_lt
    have HRD := Lib.hid hrd
    clear hcl hx0 hx1 hn hadl hrd
    go_wp2_with fail
    go_quiet (fail)
    by_cases hb : n < 1 ∨ 1024 < n
    · have HX : Hid (recF (secOf D first) count room epoch at_ R = (none, R1)) := recF_none2 HR1.out.symm h1 HLE.out hb
      rcases hb with hb | hb
      · go_wp2
        go_ret2
        rw [HX.out]
        exact ⟨rfl, _, HT1.out.after (below_drewN (Below.refl _ _) _)⟩
      · have hb1 : ¬ n < 1 := by omega
        go_wp2
        go_ret2
        rw [HX.out]
        exact ⟨rfl, _, HT1.out.after (below_drewN (Below.refl _ _) _)⟩
    · have HBB := Lib.hid hb
      have hb1 : ¬ n < 1 := by omega
      have hb2 : ¬ 1024 < n := by omega
      clear hb
      obtain ⟨R2, hR2⟩ : ∃ R2, R2 = wantF (secOf D first) count room epoch (at_ + (2 + n)) R1 := ⟨_, rfl⟩
      have HR2 := Lib.hid hR2
      clear hR2
      obtain ⟨m, hm⟩ : ∃ m, m = 2 + n := ⟨_, rfl⟩
      have HZZ : Hid (2 + (n : Int) = (m : Int)) := by show _ = _; rw [hm]; omega
      have HM := Lib.hid hm
      clear hm
      have HM6 : Hid (m ≤ 1000000) := by have := HM.out; show _ ≤ _; omega
      have HRM : Hid (wantF (secOf D first) count room epoch (at_ + m) R1 = R2) := by show _ = _; rw [HM.out]; exact HR2.out.symm
      have HTN : Hid (∀ q, RdTo Bd b Br rb first count room epoch D M R hv R1 at_ (.slice (some ⟨g, off, none⟩) k c1) w (W1.drewN q)) := fun q => HT1.out.after (below_drewN (Below.refl _ _) _)
      by_cases h3 : R2.all.length < at_ + (2 + n)
      · have HX : Hid (recF (secOf D first) count room epoch at_ R = (none, R2)) := recF_none3 HR1.out.symm h1 HLE.out HBB.out HR2.out.symm h3
        have HDC2 : Hid (decide (at_ + m ≤ R2.all.length) = false) := decide_eq_false (by have := HM.out; omega)
        go_wp2_with (go_at_call 94; refine (want_to (HTN.out _) m HM6.out HRM.out HZZ.out).mono ?_; rintro e W2 ⟨he, hv2, hto⟩; rw [HDC2.out] at he; obtain rfl := he; have HT2 := Lib.hid hto; clear hto)
        go_ret2
        rw [HX.out]
        exact ⟨rfl, _, HT2.out⟩
      · have HX : Hid (recF (secOf D first) count room epoch at_ R = (some ((R2.all.drop (at_ + 2)).take n), R2)) := recF_some HR1.out.symm h1 HLE.out HBB.out HR2.out.symm h3
        have HDC2 : Hid (decide (at_ + m ≤ R2.all.length) = true) := decide_eq_true (by have := HM.out; omega)
        go_wp2_with (go_at_call 94; refine (want_to (HTN.out _) m HM6.out HRM.out HZZ.out).mono ?_; rintro e W2 ⟨he, hv2, hto⟩; rw [HDC2.out] at he; obtain rfl := he; have hle2 := hto.rdat.le; obtain ⟨g2, off2, c2, rfl, hkc2, hcm2⟩ := hto.rdat.row.some_ (by rw [List.length_drop]; omega); obtain ⟨k2, hk2e⟩ : ∃ k, k = (R2.all.drop at_).length := ⟨_, rfl⟩; have hkl2 : at_ + k2 = R2.all.length := (by rw [hk2e, List.length_drop]; omega); rw [← hk2e] at hto hkc2; have HK2 := Lib.hid hk2e; have HT2 := Lib.hid hto; have d7 : W2.cell? ⟨rb, 7, none⟩ = some (.slice (some ⟨g2, off2, none⟩) k2 c2) := hto.rdat.blk.at_ 7 rfl; have f7 := hto.rdat.blk.frozen 7; have z1 : (2 : Int) + (n : Int) ≤ (c2 : Int) := (by omega); have z2 : (2 : Int) + (n : Int) ≤ (k2 : Int) := (by omega); have z3 : (0 : Int) ≤ 2 + (n : Int) := (by omega); have z4 : (2 : Int) ≤ 2 + (n : Int) := (by omega); have z5 : (2 + (n : Int)).toNat = 2 + n := (by omega); have z6 : (k2 : Int) ≤ (c2 : Int) := (by omega); clear hto hk2e)
        all_goals (
          have hdn : ∃ v3 : Value, v3 = .slice (some (if c2 = 2 + n then ⟨g2, off2, none⟩ else ⟨g2, off2 + (2 + n), none⟩)) (k2 - (2 + n)) (c2 - (2 + n)) := ⟨_, rfl⟩
          obtain ⟨v3, hv3⟩ := hdn
          obtain ⟨hto3, hrd3, hlt3⟩ := rec_done HT2.out HK2.out (by omega) (by omega) v3 hv3
          first
            | (rw [if_neg (by assumption)] at hv3)
            | (rw [if_pos (by assumption), show c2 - (2 + n) = 0 from by omega] at hv3)
          subst hv3
          have HT3 := Lib.hid hto3
          have HLT := Lib.hid hlt3
          have HNL : Hid (((R2.all.drop (at_ + 2)).take n).length = n) := hrd3.blen
          have HRD3 := Lib.hid hrd3
          clear hto3 hrd3 hlt3 d7 f7 HT2 HT1 HTN
          refine (bclone_any (some ⟨g2, off2 + 2, none⟩) n n _ _ HRD3.out (by omega)).mono ?_
          rintro e W5 ⟨A5, c5, rfl, hown, hb5⟩
          rw [HNL.out] at hown
          rw [HNL.out]
          have HT5 := Lib.hid (HT3.out.after hb5)
          have HOW := Lib.hid hown
          have HSZ := Lib.hid HT3.out.only.size
          clear hown hb5
          go_wp2
          go_ret2
          rw [HX.out]
          refine ⟨A5, c5, _, by rw [HNL.out]; rfl, by rw [HNL.out]; omega, by rw [HNL.out]; omega, by rw [HNL.out]; exact ownsRow_base HOW.out HSZ.out, by rw [HNL.out]; exact HT5.out, fun g hg e => ?_⟩
          rw [HNL.out] at e
          have h4 := (HOW.out.lt g e).1
          have h5 := HLT.out g hg
          omega)
end Go.Proofs.Ytenommboacjopaa
