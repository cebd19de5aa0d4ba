/- (*wal.reader).want by its contract. -/
import Derived.Test.YtenommboacjopaaRead1
namespace Go.Proofs.Ytenommboacjopaa
open Go.RowKit

def Rst.left (count : Nat) (R : Rst) : Nat := 2 * (count - R.reads) + R.more.toNat
theorem rd1_left {sec : Nat → List UInt8} {count room epoch : Nat} {R : Rst} (h : R.more = true) : (rd1 sec count room epoch R).left count < R.left count := by
  unfold rd1 Rst.left
  rw [h]
  split
  · simp
  · split
    · have : (decide ((‹List UInt8›).length = room)).toNat ≤ 1 := Bool.toNat_le _
      simp only [Bool.toNat_true] at *
      omega
    · simp only [Bool.toNat_false, Bool.toNat_true]
      omega
/-- Sectors are read until m bytes of the stream are there, or no more comes. -/
def wantF (sec : Nat → List UInt8) (count room epoch m : Nat) (R : Rst) : Rst :=
  if _h : R.all.length < m ∧ R.more = true then wantF sec count room epoch m (rd1 sec count room epoch R) else R
  termination_by R.left count
  decreasing_by exact rd1_left _h.2
theorem wantF_go {sec : Nat → List UInt8} {count room epoch m : Nat} {R : Rst} (h : R.all.length < m ∧ R.more = true) : wantF sec count room epoch m R = wantF sec count room epoch m (rd1 sec count room epoch R) := by
  rw [wantF, dif_pos h]
theorem wantF_stop {sec : Nat → List UInt8} {count room epoch m : Nat} {R : Rst} (h : ¬ (R.all.length < m ∧ R.more = true)) : wantF sec count room epoch m R = R := by
  rw [wantF, dif_neg h]
theorem rd1_mono (sec : Nat → List UInt8) (count room epoch : Nat) (R : Rst) : R.reads ≤ (rd1 sec count room epoch R).reads ∧ ∃ p, (rd1 sec count room epoch R).all = R.all ++ p := by
  unfold rd1
  split
  · exact ⟨Nat.le_refl _, [], by simp⟩
  · split
    · exact ⟨Nat.le_succ _, _, rfl⟩
    · exact ⟨Nat.le_succ _, [], by simp⟩
theorem wantF_ind {sec : Nat → List UInt8} {count room epoch m : Nat} {P : Rst → Prop} (step : ∀ R, P R → R.all.length < m → R.more = true → P (rd1 sec count room epoch R)) : ∀ (n : Nat) (R : Rst), R.left count = n → P R → P (wantF sec count room epoch m R) := by
  intro n
  induction n using Nat.strongRecOn with
  | _ n ih =>
    intro R hn hP
    by_cases h : R.all.length < m ∧ R.more = true
    · rw [wantF_go h]
      exact ih _ (by rw [← hn]; exact rd1_left h.2) _ rfl (step R hP h.1 h.2)
    · rw [wantF_stop h]; exact hP
theorem wantF_mono (sec : Nat → List UInt8) (count room epoch m : Nat) (R : Rst) : R.reads ≤ (wantF sec count room epoch m R).reads ∧ ∃ p, (wantF sec count room epoch m R).all = R.all ++ p :=
  wantF_ind (P := fun R' => R.reads ≤ R'.reads ∧ ∃ p, R'.all = R.all ++ p) (fun R' h _ _ => by
    obtain ⟨h1, p, h2⟩ := h
    obtain ⟨h3, q, h4⟩ := rd1_mono sec count room epoch R'
    exact ⟨Nat.le_trans h1 h3, p ++ q, by rw [h4, h2, List.append_assoc]⟩) _ R rfl ⟨Nat.le_refl _, [], by simp⟩

/-- A reader is brought from R to R'. -/
structure RdTo (Bd b Br rb first count room epoch : Nat) (D : Dk) (M : DkM) (R : Rst) (hv : Value) (R' : Rst) (at_' : Nat) (hv' : Value) (w w' : World) : Prop where
  rdat : ReadAt w' Bd b Br rb first count room epoch { D with rd := D.rd + (R'.reads - R.reads) } M R' at_' hv'
  only : Only (rdFoot b rb hv) w w'
  own : ∀ g, blkOf hv' = some g → blkOf hv = some g ∨ w.heap.size ≤ g
  mono : R.reads ≤ R'.reads
theorem RdTo.refl {w : World} {Bd b Br rb first count room epoch at_ : Nat} {D : Dk} {M : DkM} {R : Rst} {hv : Value} (h : ReadAt w Bd b Br rb first count room epoch D M R at_ hv) : RdTo Bd b Br rb first count room epoch D M R hv R at_ hv w w := by
  refine ⟨?_, Only.refl _ _, fun g hg => .inl hg, Nat.le_refl _⟩
  rw [Nat.sub_self]
  exact h
theorem RdTo.trans {w w1 w2 : World} {Bd b Br rb first count room epoch a1 a2 : Nat} {D : Dk} {M : DkM} {R R1 R2 : Rst} {hv hv1 hv2 : Value} (h : RdTo Bd b Br rb first count room epoch D M R hv R1 a1 hv1 w w1)
    (h' : RdTo Bd b Br rb first count room epoch { D with rd := D.rd + (R1.reads - R.reads) } M R1 hv1 R2 a2 hv2 w1 w2) : RdTo Bd b Br rb first count room epoch D M R hv R2 a2 hv2 w w2 := by
  refine ⟨?_, h.only.trans h'.only ?_, fun g hg => ?_, Nat.le_trans h.mono h'.mono⟩
  · have e : D.rd + (R1.reads - R.reads) + (R2.reads - R1.reads) = D.rd + (R2.reads - R.reads) := by
      have := h.mono; have := h'.mono; omega
    have h2 := h'.rdat
    show ReadAt w2 Bd b Br rb first count room epoch { D with rd := D.rd + (R2.reads - R.reads) } M R2 a2 hv2
    rw [← e]
    exact h2
  · intro k hk hf
    rcases hf with e | e | e
    · exact .inl e
    · exact .inr (.inl e)
    · rcases h.own k e with h3 | h3
      · exact .inr (.inr h3)
      · omega
  · rcases h'.own g hg with h3 | h3
    · exact h.own g h3
    · exact .inr (Nat.le_trans h.only.size h3)
theorem RdTo.after {w w1 w2 : World} {Bd b Br rb first count room epoch a1 : Nat} {D : Dk} {M : DkM} {R R1 : Rst} {hv hv1 : Value} (h : RdTo Bd b Br rb first count room epoch D M R hv R1 a1 hv1 w w1) (hb : Below w1.heap.size w1 w2) : RdTo Bd b Br rb first count room epoch D M R hv R1 a1 hv1 w w2 :=
  ⟨h.rdat.below hb, h.only.trans (Only.of_below (F := fun _ => False) hb) (fun _ _ h => h.elim), h.own, h.mono⟩
theorem RdTo.of_post {w w' : World} {Bd b Br rb first count room epoch a1 : Nat} {D : Dk} {M : DkM} {R R1 : Rst} {hv : Value} (h : RdPost Bd b Br rb first count room epoch D M R hv R1 a1 w w') (hm : R.reads ≤ R1.reads) : ∃ hv1, RdTo Bd b Br rb first count room epoch D M R hv R1 a1 hv1 w w' := by
  obtain ⟨hv1, h1, h2, h3⟩ := h
  exact ⟨hv1, h1, h2, h3, hm⟩

def RetWant (Bd b Br rb first count room epoch : Nat) (D : Dk) (M : DkM) (R : Rst) (hv : Value) (R' : Rst) (at_ n : Nat) (w : World) (e : Ending) (w' : World) : Prop :=
  e = .returned (.bool (decide (at_ + n ≤ R'.all.length))) ∧ ∃ hv', RdTo Bd b Br rb first count room epoch D M R hv R' at_ hv' w w'

/-- What is left, read off the memory. -/
def rdLeft (rb count : Nat) (w : World) : Nat :=
  match w.cell? ⟨rb, 5, none⟩, w.cell? ⟨rb, 6, none⟩ with
  | some (.int _ r), some (.bool m) => 2 * (count - r.toNat) + m.toNat
  | _, _ => 0
theorem ReadAt.left {w : World} {Bd b Br rb first count room epoch at_ : Nat} {D : Dk} {M : DkM} {R : Rst} {hv : Value} (h : ReadAt w Bd b Br rb first count room epoch D M R at_ hv) : rdLeft rb count w = R.left count := by
  have c5 : w.cell? ⟨rb, 5, none⟩ = some (.int .i64 (R.reads : Int)) := h.blk.at_ 5 rfl
  have c6 : w.cell? ⟨rb, 6, none⟩ = some (.bool R.more) := h.blk.at_ 6 rfl
  unfold rdLeft
  rw [c5, c6]
  rfl

set_option maxRecDepth 100000 in
set_option maxHeartbeats 1000000 in
theorem want_any (w : World) (Bd b Br rb first count room epoch at_ n : Nat) (D : Dk) (M : DkM) (R : Rst) (hv : Value) (h : ReadAt w Bd b Br rb first count room epoch D M R at_ hv) (_hn : n ≤ 1000000) :
    Calls Try.prog 94 #[.pointer (some ⟨rb, 0, none⟩), .int .i64 (n : Int)] w (RetWant Bd b Br rb first count room epoch D M R hv (wantF (secOf D first) count room epoch (at_ + n) R) at_ n w) := by
  have H := Lib.hid h
  clear h
  go_enter Try.func94, Try.ntmps94
  go_wp2_with fail
  go_loopw [] (fun wr => ∃ (R1 : Rst) (hv1 : Value), wantF (secOf D first) count room epoch (at_ + n) R1 = wantF (secOf D first) count room epoch (at_ + n) R ∧ RdTo Bd b Br rb first count room epoch D M R hv R1 at_ hv1 w wr) (fun wr => rdLeft rb count wr)
  case atStart => exact ⟨R, hv, rfl, RdTo.refl H.out⟩
  case round =>
    obtain ⟨R1, hv1, hw, hto⟩ := hrel
    obtain ⟨A1, c1, rfl⟩ := hto.rdat.row.form
    have hle := hto.rdat.le
    have hl4 := hto.rdat.n2.2.2.2
    obtain ⟨k, hk⟩ : ∃ k, k = (R1.all.drop at_).length := ⟨_, rfl⟩
    have hkl : at_ + k = R1.all.length := by rw [hk, List.length_drop]; omega
    have HT := Lib.hid hto
    have HW := Lib.hid hw
    rw [← hk] at HT
    have c7 : wr.cell? ⟨rb, 7, none⟩ = some (.slice A1 k c1) := HT.out.rdat.blk.at_ 7 rfl
    have c6 : wr.cell? ⟨rb, 6, none⟩ = some (.bool R1.more) := HT.out.rdat.blk.at_ 6 rfl
    have HLF := Lib.hid HT.out.rdat.left
    clear hto hw hk
    by_cases h1 : k < n
    · cases hm : R1.more with
      | true =>
        rw [hm] at c6
        have HST : Hid (R1.all.length < at_ + n ∧ R1.more = true) := ⟨by omega, hm⟩
        go_wp2_with (go_at_call 99; refine (readR_any wr Bd b Br rb first count room epoch at_ _ M R1 _ HT.out.rdat).mono ?_; rintro e W2 ⟨⟨v, rfl⟩, hpost⟩)
        obtain ⟨hv2, ht2⟩ := RdTo.of_post hpost (rd1_mono _ _ _ _ _).1
        refine ⟨⟨_, hv2, ?_, HT.out.trans ht2⟩, ?_⟩
        · rw [← HW.out, wantF_go HST.out]; rfl
        · rw [ht2.rdat.left, HLF.out]
          exact rd1_left HST.out.2
      | false =>
        rw [hm] at c6
        have HST : Hid (¬ (R1.all.length < at_ + n ∧ R1.more = true)) := fun x => by rw [hm] at x; cases x.2
        go_wp2
        go_ret
        have hR : wantF (secOf D first) count room epoch (at_ + n) R = R1 := by rw [← HW.out, wantF_stop HST.out]
        rw [hR]
        refine ⟨?_, _, HT.out⟩
        show Ending.returned (Value.bool (decide (n ≤ k))) = _
        rw [show decide (n ≤ k) = decide (at_ + n ≤ R1.all.length) from decide_eq_decide.2 (by omega)]
    · have HST : Hid (¬ (R1.all.length < at_ + n ∧ R1.more = true)) := fun x => by omega
      go_wp2
      go_ret
      have hR : wantF (secOf D first) count room epoch (at_ + n) R = R1 := by rw [← HW.out, wantF_stop HST.out]
      rw [hR]
      refine ⟨?_, _, HT.out⟩
      show Ending.returned (Value.bool (decide (n ≤ k))) = _
      rw [show decide (n ≤ k) = decide (at_ + n ≤ R1.all.length) from decide_eq_decide.2 (by omega)]
end Go.Proofs.Ytenommboacjopaa
