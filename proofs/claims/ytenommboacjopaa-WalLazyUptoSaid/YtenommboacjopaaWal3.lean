/- (*wal.Log).Append of a record that fits, by its contract. -/
import Derived.Test.YtenommboacjopaaWal2
import Derived.Deep.RegionHeld3
namespace Go.Proofs.Ytenommboacjopaa
open Go.RowKit

theorem le2_mod {k : Nat} (hk : k < 65536) : [Value.int .u8 ((k : Int) % 256), .int .u8 ((k : Int) / 256)] = (leB k 2).map bv := by
  have h0 := byte_at (x := k) (k := 0)
  have h1 := byte_at (x := k) (k := 1)
  rw [leB_succ, leB_succ, leB_zero, List.nil_append, List.map_append, List.map_cons, List.map_nil, List.map_cons, List.map_nil, ← h0, ← h1]
  have e0 : (k : Int) / 2 ^ (8 * 0) % 256 = (k : Int) % 256 := by rw [show (2 : Int) ^ (8 * 0) = 1 from rfl]; omega
  have e1 : (k : Int) / 2 ^ (8 * 1) % 256 = (k : Int) / 256 := by rw [show (2 : Int) ^ (8 * 1) = 256 from rfl]; omega
  rw [e0, e1]
  rfl

def sliceLen : Value → Nat
  | .slice _ n _ => n
  | _ => 0

/-- The loop of Append: the bytes that are still to be written, the sector, the tail. -/
structure AppLoop (w : World) (B l b : Nat) (D0 : Dk) (M0 : DkM) (L : Lg) (tv0 : Value) (e0 : List UInt8) (en : Option Addr) (c : Nat) (tv : Value) (D : Dk) (M : DkM) (at_ : Nat) (tail entry : List UInt8) (wr : World) : Prop where
  dk : DiskAt wr B b D M
  only : Only (M0.foot b) w wr
  foot : ∀ k, M.foot b k → M0.foot b k ∨ w.heap.size ≤ k
  ent : RdB wr en entry.length entry
  enb : ∀ ad, en = some ad → w.heap.size ≤ ad.block ∧ ¬ M.foot b ad.block ∧ tv.ownBlock ≠ some ad.block
  ecap : entry.length ≤ c
  cmax : c ≤ maxLen
  row : wr.ownsRow w.heap.size 5 1 tv tail.length (tail.map bv)
  sep : Sep M b tv
  size : D.size = D0.size
  n : D.n = D0.n
  ale : at_ ≤ L.count
  tl : tail.length < L.room
  room : entry.length + at_ * L.room + tail.length ≤ L.count * L.room
  full : at_ = L.count → tail = []
  cnt : D.wait.length + entry.length ≤ 4398046511104
  eq : app L.first L.epoch L.room D at_ tail entry = app L.first L.epoch L.room D0 L.at_ L.tail e0

theorem AppLoop.nums {w : World} {B l b : Nat} {D0 : Dk} {M0 : DkM} {L : Lg} {tv0 : Value} {e0 : List UInt8} {en : Option Addr} {c : Nat} {tv : Value} {D : Dk} {M : DkM} {at_ : Nat} {tail entry : List UInt8} {wr : World}
    (h : AppLoop w B l b D0 M0 L tv0 e0 en c tv D M at_ tail entry wr) (he : 0 < entry.length) : at_ < L.count := by
  have h1 := h.room
  rcases Nat.lt_or_ge at_ L.count with h2 | h2
  · exact h2
  · have : L.count * L.room ≤ at_ * L.room := Nat.mul_le_mul_right _ h2
    omega

/-- Append is done. -/
def RetApp (B l b : Nat) (D : Dk) (M : DkM) (L : Lg) (tv : Value) (e0 : List UInt8) (w : World) (e : Ending) (w' : World) : Prop :=
  ∃ D' z at_ tail M' L' tv', app L.first L.epoch L.room D L.at_ L.tail e0 = (D', z, at_, tail) ∧ e = .returned (.int .i64 z) ∧ DiskAt w' B b D' M' ∧
    (L' = if z = 0 then { L with at_ := at_, tail := tail, cnt := L.cnt + 1 } else L) ∧ LogAt w' B l b L' tv' ∧ Sep M' b tv' ∧ Only (fun k => k = l ∨ M.foot b k) w w' ∧
    (∀ k, M'.foot b k → M.foot b k ∨ w.heap.size ≤ k) ∧ (∀ k, tv'.ownBlock = some k → tv.ownBlock = some k ∨ w.heap.size ≤ k)

theorem app_nil (first epoch room : Nat) (D : Dk) (at_ : Nat) (tail : List UInt8) : app first epoch room D at_ tail [] = (D, 0, at_, tail) := by rw [app, if_pos (.inl rfl)]
theorem app_end {w : World} {B l b : Nat} {D0 : Dk} {M0 : DkM} {L : Lg} {tv0 : Value} {e0 : List UInt8} {en : Option Addr} {c : Nat} {tv : Value} {D : Dk} {M : DkM} {at_ : Nat} {tail entry : List UInt8} {wr : World}
    (hl : LogAt w B l b L tv0) (hlf : ¬ M0.foot b l) (hbr : Blk wr l 99 (lgCells b L tv0)) (h : AppLoop w B l b D0 M0 L tv0 e0 en c tv D M at_ tail entry wr) (he : entry = []) :
    RetApp B l b D0 M0 L tv0 e0 w (.returned (.int .i64 0)) (((wr.setCell ⟨l, 5, none⟩ (.int .i64 (at_ : Int))).setCell ⟨l, 6, none⟩ tv).setCell ⟨l, 7, none⟩ (.int .i64 (wrap64 ((L.cnt + 1 : Nat) : Int)))) := by
  have hBw := hl.Bl
  have hlw := hl.blk.lt
  have hml : ¬ M.foot b l := fun hf => by
    rcases h.foot l hf with h1 | h1
    · exact hlf h1
    · omega
  have ho : Only (fun k => k = l) wr (((wr.setCell ⟨l, 5, none⟩ (.int .i64 (at_ : Int))).setCell ⟨l, 6, none⟩ tv).setCell ⟨l, 7, none⟩ (.int .i64 (wrap64 ((L.cnt + 1 : Nat) : Int)))) :=
    (((Only.refl (fun k => k = l) wr).setCell (p := ⟨l, 5, none⟩) (fun _ => rfl) _).setCell (p := ⟨l, 6, none⟩) (fun _ => rfl) _).setCell (p := ⟨l, 7, none⟩) (fun _ => rfl) _
  have hb := ((hbr.set_ 5 (.int .i64 (at_ : Int))).set_ 6 tv).set_ 7 (.int .i64 (wrap64 ((L.cnt + 1 : Nat) : Int)))
  have heq := h.eq
  subst he
  rw [app_nil] at heq
  refine ⟨D, 0, at_, tail, M, { L with at_ := at_, tail := tail, cnt := L.cnt + 1 }, tv, heq.symm, rfl, h.dk.only ho (fun k hf e => by subst e; exact hml hf), by simp, ⟨⟨hl.ok.f, hl.ok.c, hl.ok.r1, hl.ok.r2, h.ale, h.tl, h.full⟩, hb, ?_, hBw⟩, h.sep, ?_, h.foot, ?_⟩
  · exact ownsRow_base (ownsRow_only h.row ho (fun g hg e => by have := (h.row.lt g hg).1; omega)) (by omega)
  · exact (h.only.mono (fun _ _ hf => Or.inr hf)).trans ho (fun _ _ e => Or.inl e)
  · intro k hk
    exact .inr (h.row.lt k hk).1

/-- One round of the loop went well. -/
theorem AppLoop.next {w : World} {B l b : Nat} {D0 : Dk} {M0 : DkM} {L : Lg} {tv0 : Value} {e0 : List UInt8} {en : Option Addr} {c : Nat} {tv : Value} {D : Dk} {M : DkM} {at_ : Nat} {tail entry : List UInt8} {wr : World}
    (h : AppLoop w B l b D0 M0 L tv0 e0 en c tv D M at_ tail entry wr) {nn : Nat} (hn1 : 1 ≤ nn) (hn2 : nn ≤ entry.length) {W1 w2 : World} {v1 tv2 : Value} (hg : wr.grownBy W1 tv.ownBlock) (hat : v1.ownBlock = tv.ownBlock ∨ v1.ownBlock = some wr.heap.size)
    (hv1 : ∀ g, v1.ownBlock = some g → g < W1.heap.size)
    {D2 : Dk} {M2 : DkM} (hd2 : DiskAt w2 B b D2 M2) (ho2 : Only (M.foot b) W1 w2) (hf2 : ∀ k, M2.foot b k → M.foot b k ∨ W1.heap.size ≤ k) (hs2 : D2.size = D.size) (hnn2 : D2.n = D.n) (hw2 : D2.wait.length ≤ D.wait.length + 1)
    {at2 : Nat} {tail2 : List UInt8} (hrow2 : w2.ownsRow w.heap.size 5 1 tv2 tail2.length (tail2.map bv)) (hblk : ∀ g, tv2.ownBlock = some g → v1.ownBlock = some g)
    (hat2 : at2 ≤ L.count) (htl2 : tail2.length < L.room) (hroom : (entry.drop nn).length + at2 * L.room + tail2.length ≤ L.count * L.room) (hfull : at2 = L.count → tail2 = [])
    (heq : app L.first L.epoch L.room D2 at2 tail2 (entry.drop nn) = app L.first L.epoch L.room D at_ tail entry) :
    AppLoop w B l b D0 M0 L tv0 e0 (if c = nn then en else en.map (·.add nn)) (c - nn) tv2 D2 M2 at2 tail2 (entry.drop nn) w2 := by
  have hwr := h.only.size
  have hsz := hg.size
  have hv1' : ∀ g, v1.ownBlock = some g → w.heap.size ≤ g ∧ ¬ M.foot b g ∧ ∀ ad, en = some ad → g ≠ ad.block ∨ wr.heap.size ≤ ad.block := by
    intro g e
    rcases hat with h1 | h1
    · rw [h1] at e
      refine ⟨(h.row.lt g e).1, h.sep g e, fun ad ha => .inl fun e2 => ?_⟩
      subst e2
      exact (h.enb ad ha).2.2 e
    · rw [h1] at e
      injection e with e
      subst e
      refine ⟨hwr, fun hf => ?_, fun ad ha => ?_⟩
      · have := (h.dk.foot_lt hf).2; omega
      · rcases Nat.lt_or_ge ad.block wr.heap.size with h3 | h3
        · exact .inl (by omega)
        · exact .inr h3
  have hent : RdB W1 en entry.length entry := h.ent.keep hsz fun ad e hb => hg.block ad.block hb (fun e2 => (h.enb ad e).2.2 e2.symm)
  have hent2 : RdB w2 en entry.length entry := hent.only ho2 fun ad e => (h.enb ad e).2.1
  have hcut := hent2.cut (k := nn) (cap := c) hn2 h.ecap
  have hlt : ∀ ad, en = some ad → ad.block < wr.heap.size := fun ad e => by
    obtain ⟨ad', e', hb, _⟩ := h.ent.2 (by omega)
    rw [e] at e'; injection e' with e'; rw [e']; exact hb
  have hfoot : ∀ k, M2.foot b k → M0.foot b k ∨ w.heap.size ≤ k := fun k hk => by
    rcases hf2 k hk with h1 | h1
    · exact h.foot k h1
    · exact .inr (by omega)
  refine ⟨hd2, ?_, hfoot, ?_, ?_, ?_, Nat.le_trans (Nat.sub_le _ _) h.cmax, hrow2, ?_, by rw [hs2, h.size], by rw [hnn2, h.n], hat2, htl2, hroom, hfull, ?_, heq.trans h.eq⟩
  · refine (h.only.grown hg (fun k e hk => ?_)).trans ho2 (fun k hk hf => ?_)
    · have := (h.row.lt k e).1; omega
    · rcases h.foot k hf with h1 | h1
      · exact h1
      · omega
  · rw [← List.map_drop] at hcut
    rw [List.length_drop]
    exact hcut
  · intro ad e
    have hx : ∃ ad0, en = some ad0 ∧ ad.block = ad0.block := by
      split at e
      · exact ⟨ad, e, rfl⟩
      · cases en with
        | none => cases e
        | some a0 =>
          injection e with e
          exact ⟨a0, rfl, by rw [← e]; exact block_of_add a0 nn⟩
    obtain ⟨a0, ha, hab⟩ := hx
    rw [hab]
    refine ⟨(h.enb a0 ha).1, fun hf => ?_, fun e2 => ?_⟩
    · rcases hf2 _ hf with h1 | h1
      · exact (h.enb a0 ha).2.1 h1
      · have := hlt a0 ha; omega
    · rcases (hv1' _ (hblk _ e2)).2.2 a0 ha with h1 | h1
      · exact h1 rfl
      · have := hlt a0 ha; omega
  · rw [List.length_drop]; have := h.ecap; omega
  · intro g e hf
    have h1 := hv1' g (hblk g e)
    rcases hf2 g hf with h2 | h2
    · exact h1.2.1 h2
    · have := hv1 g (hblk g e)
      omega
  · rw [List.length_drop]; have := h.cnt; omega

/-- One round of the loop met a disk without power. -/
theorem AppLoop.stop {w : World} {B l b : Nat} {D0 : Dk} {M0 : DkM} {L : Lg} {tv0 : Value} {e0 : List UInt8} {en : Option Addr} {c : Nat} {tv : Value} {D : Dk} {M : DkM} {at_ : Nat} {tail entry : List UInt8} {wr : World}
    (hl : LogAt w B l b L tv0) (hlf : ¬ M0.foot b l) (hs : Sep M0 b tv0) (h : AppLoop w B l b D0 M0 L tv0 e0 en c tv D M at_ tail entry wr) {nn : Nat} (hnn : nn = min entry.length (L.room - tail.length)) (he : 0 < entry.length) (hz : D.putZ ≠ 0)
    {W1 w2 : World} (hg : wr.grownBy W1 tv.ownBlock) {M2 : DkM} (hd2 : DiskAt w2 B b (D.put (L.first + at_) (lSec D.size L.epoch at_ (tail ++ entry.take nn))) M2) (ho2 : Only (M.foot b) W1 w2) (hf2 : ∀ k, M2.foot b k → M.foot b k ∨ W1.heap.size ≤ k) :
    RetApp B l b D0 M0 L tv0 e0 w (.returned (.int .i64 D.putZ)) w2 := by
  have hwr := h.only.size
  have hsz := hg.size
  have heq := h.eq
  have htl := h.tl
  rw [app, if_neg (by rintro (e | e); · rw [e] at he; exact absurd he (by simp)
                      · omega), if_pos hz, ← hnn] at heq
  have hon : Only (M0.foot b) w w2 := by
    refine (h.only.grown hg (fun k e hk => ?_)).trans ho2 (fun k hk hf => ?_)
    · have := (h.row.lt k e).1; omega
    · rcases h.foot k hf with h1 | h1
      · exact h1
      · omega
  have hfoot : ∀ k, M2.foot b k → M0.foot b k ∨ w.heap.size ≤ k := fun k hk => by
    rcases hf2 k hk with h1 | h1
    · exact h.foot k h1
    · exact .inr (by omega)
  refine ⟨_, _, _, _, M2, L, tv0, heq.symm, rfl, hd2, by rw [if_neg hz], hl.only hon hlf hs, fun g hg hf => ?_, hon.mono (fun _ _ hf => .inr hf), hfoot, fun k hk => .inl hk⟩
  rcases hfoot g hf with h1 | h1
  · exact hs g hg h1
  · have := (hl.row.lt g hg).2; omega

theorem app_on {first epoch room : Nat} {D : Dk} {at_ : Nat} {tail entry : List UInt8} {nn : Nat} (hnn : nn = min entry.length (room - tail.length)) (he : 0 < entry.length) (ht : tail.length < room) (hz : D.putZ = 0) :
    app first epoch room D at_ tail entry = if (tail ++ entry.take nn).length = room then app first epoch room (D.put (first + at_) (lSec D.size epoch at_ (tail ++ entry.take nn))) (at_ + 1) [] (entry.drop nn)
      else app first epoch room (D.put (first + at_) (lSec D.size epoch at_ (tail ++ entry.take nn))) at_ (tail ++ entry.take nn) (entry.drop nn) := by
  rw [app, if_neg (by rintro (e | e); · rw [e] at he; exact absurd he (by simp)
                      · omega), if_neg (by simp [hz]), ← hnn]

set_option maxRecDepth 100000 in
set_option maxHeartbeats 4000000 in
theorem append_any (w : World) (B l b : Nat) (D : Dk) (M : DkM) (L : Lg) (tv : Value) (A : Option Addr) (n c : Nat) (rec : List UInt8) (hl : LogAt w B l b L tv) (hd : DiskAt w B b D M) (hs : Sep M b tv) (hsz : D.size = L.room + 17) (hn : L.first + L.count ≤ D.n)
    (hr : RdB w A n rec) (h1 : 1 ≤ n) (h2 : n ≤ 1024) (h : 2 + n ≤ L.restN) (hc : D.wait.length + 2 + n ≤ 4398046511104) :
    Calls Try.prog 14 #[.pointer (some ⟨l, 0, none⟩), .slice A n c] w (RetApp B l b D M L tv (leB n 2 ++ rec) w) := by
  have HL := Lib.hid hl
  have HD := Lib.hid hd
  have HS := Lib.hid hs
  have HSZ := Lib.hid hsz
  have HN := Lib.hid hn
  have HR := Lib.hid hr
  have HC := Lib.hid hc
  have HRE := Lib.hid h
  obtain ⟨i0, hi, hz0, hz1, hz2⟩ := info_parts infoU8
  have H1 : Hid (2 + n ≤ maxLen) := by show 2 + n ≤ _; unfold maxLen; omega
  have H2 : Hid ((2 + n) * 1 ≤ 140737488355328) := by show (2 + n) * 1 ≤ _; omega
  have hnn : ¬ (L.restN : Int) < 2 + (n : Int) := by omega
  clear hl hd hs hsz hn hr hc h
  go_enter Try.func14, Try.ntmps14
  go_wp2_with (first
    | (go_at_call 44; refine (rest_any _ B l b L tv HL.out).mono ?_; rintro e w' ⟨rfl, nq, rfl⟩)
    | (at_builtin; refine at_world_list ?_))
  intro W hW
  have HO : Hid (Below w.heap.size w W) := by rw [hW.out]; exact (below_drewN (Below.refl _ w) _).alloc (Nat.le_refl _) _
  have HB : Hid (W.ownsRow w.heap.size 5 1 (.slice (some ⟨w.heap.size, 0, none⟩) 2 2) 2 ((leB n 2).map bv)) := by
    rw [hW.out]
    have h := own_full (base := w.heap.size) (n := 2) (e := 5) (cs := (leB n 2).map bv) (w.drewN nq) (by simp) (by simp [leB_length]) (by unfold maxLen; omega) (map_bv_one _)
    rw [← le2_mod (by omega)] at h ⊢
    exact h
  have HRW : Hid (RdB W A n rec) := HR.out.below HO.out
  clear hW
  refine wpList_append_src rfl (.tmp 36) (.tmp 37) 36 rfl w.heap.size 5 i0 (.int .u8 0) 1 Try.underlying36 hi hz0 hz1 hz2 rfl _ 2 _ rfl HB.out A n c (rec.map bv) rfl HRW.out (map_bv_one _) H1.out H2.out HO.out.size ?_
  intro v1 W1 hown hg _
  have HO1 : Hid (Below w.heap.size w W1) := HO.out.grown hg HO.out.size (fun k hk => by have e : some w.heap.size = some k := hk; injection e; omega)
  rw [← List.map_append] at hown
  obtain ⟨A', c', rfl⟩ := own_slice hown
  have HE1 := Lib.hid hown
  have HL1 : Hid (LogAt W1 B l b L tv) := HL.out.below HO1.out
  clear hg hown HB HRW HO
  go_wp2_with fail
  have HE2 := HE1
  have hsz1 := HO1.out.size
  have HD1 : Hid (DiskAt W1 B b D M) := HD.out.below HO1.out
  clear HE1
  have c5 := HL1.out.c5
  have c6 := HL1.out.c6
  obtain ⟨At, ct, htv⟩ := own_slice HL1.out.row
  rw [htv] at c6
  have HTV := Lib.hid htv
  have HRT : Hid (RdB W1 At L.tail.length L.tail) := by have h := HL1.out.row; rw [htv] at h; exact Rd.of_own h
  have HTL : Hid (L.tail.length ≤ 140737488355328) := by have := HL1.out.ok.t; have := HL1.out.ok.r2; show _ ≤ _; omega
  clear htv
  go_region_held3 (fun w' => w'.cell? ⟨l, 5, none⟩ = some (.int .i64 (L.at_ : Int)) ∧ w'.cell? ⟨l, 6, none⟩ = some (.slice At L.tail.length ct))
    (first | exact ⟨k5, k6⟩ | exact ⟨c5, c6⟩)
    (first | (go_at_call 45; refine (bclone_any At L.tail.length ct L.tail W1.drew HRT.out.drew HTL.out).mono ?_; rintro e w' ⟨A3, c3, rfl, hown, hb3⟩; have k5 : w'.cell? ⟨l, 5, none⟩ = some (.int .i64 (L.at_ : Int)) := (LogAt.below (HL1.out.keep (w' := W1.drew) rfl (fun _ _ => rfl)) hb3).c5; have k6 : w'.cell? ⟨l, 6, none⟩ = some (.slice At L.tail.length ct) := by { have h := (LogAt.below (HL1.out.keep (w' := W1.drew) rfl (fun _ _ => rfl)) hb3).c6; rw [HTV.out] at h; exact h }; have HOWN := Lib.hid hown; have HB3 := Lib.hid hb3; clear hown hb3))
  rename_i K hK hheld
  refine hK _ _ ?_
  clear hK hheld c5 c6 k5 k6
  have HRN : Hid (2 + n + L.at_ * L.room + L.tail.length ≤ L.count * L.room) := by
    have h1 := HRE.out
    have h2 := HL1.out.ok.a
    rw [Lg.restN, Nat.sub_mul] at h1
    have h3 : L.at_ * L.room ≤ L.count * L.room := Nat.mul_le_mul_right _ h2
    show _ ≤ _
    omega
  have HB4 : Hid (Below w.heap.size w w') := HO1.out.drew.trans (HB3.out.mono (by simpa using hsz1))
  have hwb : w.heap.size ≤ w'.heap.size := HB4.out.size
  have HE3 : Hid (W1.drew.ownsRow w.heap.size 5 1 (.slice A' (2 + n) c') (2 + n) ((leB n 2 ++ rec).map bv)) := HE2.out
  have HEL : Hid ((leB n 2 ++ rec).length = 2 + n) := by show _ = _; rw [List.length_append, leB_length, HR.out.blen]
  have HD4 : Hid (DiskAt w' B b D M) := HD.out.below HB4.out
  have HINIT : Hid (AppLoop w B l b D M L tv (leB n 2 ++ rec) A' c' (.slice A3 L.tail.length c3) D M L.at_ L.tail (leB n 2 ++ rec) w') := by
    obtain ⟨g, cap, hv, hg1, hg2⟩ := HE3.out.form (by omega)
    injection hv with hA _ hcap
    subst hA
    have hrd := Rd.of_own HE3.out
    refine ⟨HD4.out, Only.of_below HB4.out, fun k hk => .inl hk, by rw [HEL.out]; exact hrd.below HB3.out, ?_, ?_, ?_, ownsRow_base HOWN.out (by simpa using hsz1), ?_, rfl, rfl, HL1.out.ok.a, HL1.out.ok.t, by rw [HEL.out]; have := HRN.out; omega, HL1.out.ok.ft, by rw [HEL.out]; have := HC.out; omega, rfl⟩
    · intro ad e
      injection e with e
      subst e
      refine ⟨hg1, fun hf => ?_, fun e => ?_⟩
      · have := (HD.out.foot_lt hf).2
        simp at this hg1; omega
      · have := (HOWN.out.lt _ e).1
        simp at this hg2; omega
    · rw [HEL.out]
      rcases HE3.out.2 with ⟨h0, _⟩ | ⟨g', cap', cur, hv', _, _, hle, hmx, _⟩
      · cases h0
      · injection hv' with _ _ hc2
        omega
    · rcases HE3.out.2 with ⟨h0, _⟩ | ⟨g', cap', cur, hv', _, _, hle, hmx, _⟩
      · cases h0
      · injection hv' with _ _ hc2
        omega
    · intro g hg hf
      have h1 := (HOWN.out.lt _ hg).1
      have h2 := (HD.out.foot_lt hf).2
      simp at h1; omega
  have HBK : Hid (Blk w l 99 (lgCells b L tv)) := HL.out.blk
  have hlf : ¬ M.foot b l := by
    have h0 := HL.out.blk
    rintro (rfl | rfl | rfl | hv | hg)
    · exact h0.ne_ HD.out.blk (by decide) rfl
    · exact h0.ne_ HD.out.dur (by decide) rfl
    · exact HD.out.map.not_blk h0 rfl
    · exact own_blk_ne HD.out.row h0 (by decide) hv
    · obtain ⟨i, hi, rfl⟩ := List.mem_iff_getElem.1 hg
      have hl := HD.out.len
      exact h0.ne_ (HD.out.bytes i D.wait[i] M.gs[i] (List.getElem?_eq_getElem (by omega)) (List.getElem?_eq_getElem hi)) (by decide) rfl
  have HLF := Lib.hid hlf
  clear hlf HE2 HE3 HOWN HB3 HRT HTL HTV HRE HD1 HRN hnn HL1 HO1 hsz1 H1 H2
  have HENT : Hid ((leB n 2 ++ rec).length = 2 + n) := HEL.out
  rw [show (Value.slice A' (2 + n) c') = .slice A' (leB n 2 ++ rec).length c' from by rw [HEL.out]]
  generalize hE0 : leB n 2 ++ rec = e0 at HINIT ⊢
  go_wp2
  go_loopw [5, 6, 7] (fun e a t wr => ∃ (en : Option Addr) (c : Nat) (tv' : Value) (D' : Dk) (M' : DkM) (at_ : Nat) (tail entry : List UInt8), e = .slice en entry.length c ∧ a = .int .i64 (at_ : Int) ∧ t = tv' ∧ AppLoop w B l b D M L tv e0 en c tv' D' M' at_ tail entry wr) (fun e _ _ _ => sliceLen e)
  case atStart => exact ⟨A', c', _, D, M, L.at_, L.tail, e0, rfl, rfl, rfl, HINIT.out⟩
  case round =>
    obtain ⟨en, ce, tv', D', M', at_, tail, entry, rfl, rfl, rfl, hI⟩ := hrel
    have HI := Lib.hid hI
    clear hI HINIT
    have HBr : Hid (Blk wr l 99 (lgCells b L tv)) := HBK.out.only HI.out.only HLF.out
    have k0 : wr.cell? ⟨l, 0, none⟩ = some (.pointer (some ⟨b, 0, none⟩)) := HBr.out.at_ 0 rfl
    have k1 : wr.cell? ⟨l, 1, none⟩ = some (.int .i64 (L.first : Int)) := HBr.out.at_ 1 rfl
    have k2 : wr.cell? ⟨l, 2, none⟩ = some (.int .i64 (L.count : Int)) := HBr.out.at_ 2 rfl
    have k3 : wr.cell? ⟨l, 3, none⟩ = some (.int .i64 (L.room : Int)) := HBr.out.at_ 3 rfl
    have k4 : wr.cell? ⟨l, 4, none⟩ = some (.int .u64 (L.epoch : Int)) := HBr.out.at_ 4 rfl
    obtain ⟨Av, cv, rfl⟩ := own_slice HI.out.row
    rcases Nat.eq_zero_or_pos entry.length with he | he
    · have k5 : wr.cell? ⟨l, 5, none⟩ = some (.int .i64 (L.at_ : Int)) := HBr.out.at_ 5 rfl
      have k6 : wr.cell? ⟨l, 6, none⟩ = some tv := HBr.out.at_ 6 rfl
      have k7 : wr.cell? ⟨l, 7, none⟩ = some (.int .i64 (wrap64 (L.cnt : Int))) := HBr.out.at_ 7 rfl
      have f5 := HBr.out.frozen 5
      have f6 := HBr.out.frozen 6
      have f7 := HBr.out.frozen 7
      clear k0 k1 k2 k3 k4
      go_wp2
      go_ret
      have hEnd := app_end HL.out HLF.out HBr.out HI.out (List.eq_nil_of_length_eq_zero he)
      rw [wrap64_step]
      exact hEnd
    · have HTL : Hid (tail.length < L.room) := HI.out.tl
      have HR2 : Hid (L.room ≤ 1007) := HL.out.ok.r2
      have hcc := HI.out.ecap
      have hcm := HI.out.cmax
      unfold maxLen at hcm
      obtain ⟨nn, hnn, hn1, hn2, hn3⟩ : ∃ nn : Nat, Hid (nn = min entry.length (L.room - tail.length)) ∧ 1 ≤ nn ∧ nn ≤ entry.length ∧ (if (L.room : Int) - (tail.length : Int) < (entry.length : Int) then (L.room : Int) - (tail.length : Int) else (entry.length : Int)) = (nn : Int) := by
        have h1 := HTL.out
        refine ⟨min entry.length (L.room - tail.length), rfl, by omega, by omega, ?_⟩
        split <;> omega
      have h1 := HTL.out
      have h2 := HR2.out
      have hq1 : (0 : Int) ≤ (nn : Int) := by omega
      have hq2 : (nn : Int) ≤ (ce : Int) := by omega
      have H1 : Hid (tail.length + nn ≤ maxLen) := by show _ ≤ _; unfold maxLen; omega
      have H2 : Hid ((tail.length + nn) * 1 ≤ 140737488355328) := by show _ ≤ _; omega
      go_wp2_with (at_builtin; refine wpList_append_src rfl (.tmp 62) (.tmp 66) 36 rfl w.heap.size 5 i0 (.int .u8 0) 1 Try.underlying36 hi hz0 hz1 hz2 rfl _ tail.length (tail.map bv) rfl HI.out.row en nn nn ((entry.map bv).take nn) rfl (HI.out.ent.take hn2) (fun u hu => map_bv_one _ u (List.mem_of_mem_take hu)) H1.out H2.out HI.out.only.size ?_)
      intro v1 W1 hown hg hat
      rw [← List.map_take, ← List.map_append] at hown
      obtain ⟨T, hT⟩ : ∃ T, T = tail.length + nn := ⟨_, rfl⟩
      rw [← hT] at hown
      have HTT := Lib.hid hT
      obtain ⟨A1, c1, rfl⟩ := own_slice hown
      have hgb : ∀ k, (Value.slice Av tail.length cv).ownBlock = some k → w.heap.size ≤ k := fun k hk => (HI.out.row.lt k hk).1
      have hbl : b < wr.heap.size := HI.out.dk.blk.lt
      have HD5 : Hid (DiskAt W1 B b D' M') := HI.out.dk.keep fun k hk hf => hg.block k hk (fun e => HI.out.sep k e.symm hf)
      have HB5 : Hid (Blk W1 l 99 (lgCells b L tv)) := HBr.out.grown hg (fun e => by have h3 := hgb l e.symm; have h4 := HL.out.blk.lt; omega)
      have HOW := Lib.hid hown
      have HG := Lib.hid hg
      have HAT := Lib.hid hat
      have HTA : Hid (at_ < L.count) := HI.out.nums he
      have HTX : Hid (T + 17 ≤ D'.size) := by
        show _ ≤ _
        rw [HI.out.size, HSZ.out, hT]
        have h3 := hnn.out
        omega
      have HFA : Hid (L.first + at_ < D'.n) := by
        show _ < _
        rw [HI.out.n]
        have h3 := HTA.out
        have h4 := HN.out
        omega
      have HR5 : Hid (RdB W1 A1 T (tail ++ entry.take nn)) := Rd.of_own hown
      have HCN : Hid (D'.wait.length + 1 ≤ 4398046511104) := by have := HI.out.cnt; show _ ≤ _; omega
      have HTR : Hid (T ≤ 1007) := by have h3 := hnn.out; show _ ≤ _; omega
      have HTRR : Hid (T ≤ L.room) := by have h3 := hnn.out; show _ ≤ _; omega
      clear hown hg hat hT hgb hbl H1 H2 hq1 k0 k1 k2 k3 k4 hn3
      have k0 : W1.cell? ⟨l, 0, none⟩ = some (.pointer (some ⟨b, 0, none⟩)) := HB5.out.at_ 0 rfl
      have k1 : W1.cell? ⟨l, 1, none⟩ = some (.int .i64 (L.first : Int)) := HB5.out.at_ 1 rfl
      have k2 : W1.cell? ⟨l, 2, none⟩ = some (.int .i64 (L.count : Int)) := HB5.out.at_ 2 rfl
      have k3 : W1.cell? ⟨l, 3, none⟩ = some (.int .i64 (L.room : Int)) := HB5.out.at_ 3 rfl
      have k4 : W1.cell? ⟨l, 4, none⟩ = some (.int .u64 (L.epoch : Int)) := HB5.out.at_ 4 rfl
      by_cases hcn : ce = nn
      all_goals (
        have HCN2 := Lib.hid hcn
        go_wp2_with fail
        refine (wput_any W1 B b D' M' at_ T c1 L.first L.count L.room L.epoch A1 (tail ++ entry.take nn) HD5.out (by have h3 := HTA.out; have h4 := HL.out.ok.c; omega) HFA.out HR5.out HTX.out HCN.out).mono ?_
        rintro e W6 ⟨M2, rfl, hd6, ho6, hf6⟩
        have HD6 := Lib.hid hd6
        have HO6 := Lib.hid ho6
        have HF6 := Lib.hid hf6
        have HM6 : Hid (¬ M'.foot b l) := fun hf => by
          rcases HI.out.foot l hf with h3 | h3
          · exact HLF.out h3
          · have := HL.out.blk.lt; omega
        have k3' : W6.cell? ⟨l, 3, none⟩ = some (.int .i64 (L.room : Int)) := (HB5.out.only ho6 HM6.out).at_ 3 rfl
        have HTLN : Hid ((tail ++ entry.take nn).length = T) := by show _ = _; rw [List.length_append, List.length_take, HTT.out]; omega
        clear hd6 ho6 hf6 k0 k1 k2 k3 k4
        rcases Int.decEq D'.putZ 0 with hz | hz
        · have HZ : Hid (D'.putZ ≠ 0) := hz
          go_wp2
          go_ret
          exact AppLoop.stop HL.out HLF.out HS.out HI.out hnn.out he HZ.out HG.out HD6.out HO6.out HF6.out
        · have HZ : Hid (D'.putZ = 0) := hz
          rw [hz]
          clear hz
          by_cases hfull : T = L.room
          · have HN2 := AppLoop.next (tv2 := .slice none 0 0) (at2 := at_ + 1) (tail2 := []) HI.out hn1 hn2 HG.out HAT.out (fun g e => (HOW.out.lt g e).2) HD6.out HO6.out HF6.out (Dk.put_size _ _ _) (Dk.put_n _ _ _) (Dk.put_wait _ _ _) (World.ownsRow_nil _ _ _ _) (fun g e => by simp [Value.ownBlock] at e) HTA.out (by have := HL.out.ok.r1; show 0 < L.room; omega)
              (by have h3 := HI.out.room; have h4 := HTT.out; rw [List.length_drop, Nat.succ_mul]; simp only [List.length_nil]; omega) (fun _ => rfl) (by rw [app_on (nn := nn) hnn.out he HTL.out HZ.out, if_pos (by rw [HTLN.out]; exact hfull)])
            have HNX : Hid (wrap64 ((at_ : Int) + 1) = ((at_ + 1 : Nat) : Int)) := by have h3 := HTA.out; have h4 := HL.out.ok.c; show _ = _; rw [wrap64_in (by omega) (by omega)]; omega
            have HQ := Lib.hid HN2
            clear HN2
            go_wp2
            rw [HNX.out]
            refine ⟨⟨_, _, _, _, _, _, _, entry.drop nn, ?_, rfl, rfl, HQ.out⟩, ?_⟩
            · rw [List.length_drop]
              first | (rw [if_pos HCN2.out, HCN2.out, Nat.sub_self]) | (rw [if_neg HCN2.out])
            · show entry.length - nn < entry.length
              omega
          · have hfl : ¬ M'.foot b wr.heap.size := fun hf => by have := (HI.out.dk.foot_lt hf).2; omega
            have hv1 : ∀ g, (Value.slice A1 T c1).ownBlock = some g → ¬ M'.foot b g := fun g e => by
              rcases HAT.out with h3 | h3
              · rw [h3] at e; exact HI.out.sep g e
              · rw [h3] at e; injection e with e; subst e; exact hfl
            have hrow2 : W6.ownsRow w.heap.size 5 1 (.slice A1 T c1) (tail ++ entry.take nn).length ((tail ++ entry.take nn).map bv) := by
              rw [HTLN.out]; exact ownsRow_only HOW.out HO6.out hv1
            have hTlt : T < L.room := by have := HTRR.out; omega
            have HN2 := AppLoop.next (tv2 := .slice A1 T c1) (at2 := at_) (tail2 := tail ++ entry.take nn) HI.out hn1 hn2 HG.out HAT.out (fun g e => (HOW.out.lt g e).2) HD6.out HO6.out HF6.out (Dk.put_size _ _ _) (Dk.put_n _ _ _) (Dk.put_wait _ _ _) hrow2 (fun g e => e) (Nat.le_of_lt HTA.out) (by rw [HTLN.out]; exact hTlt)
              (by have h3 := HI.out.room; have h4 := HTT.out; rw [List.length_drop, HTLN.out]; omega) (fun e => absurd e (by have := HTA.out; omega)) (by rw [app_on (nn := nn) hnn.out he HTL.out HZ.out, if_neg (by rw [HTLN.out]; exact hfull)])
            have HQ := Lib.hid HN2
            clear HN2 hrow2 hv1 hfl hTlt
            go_wp2
            refine ⟨⟨_, _, _, _, _, _, _, entry.drop nn, ?_, rfl, rfl, HQ.out⟩, ?_⟩
            · rw [List.length_drop]
              first | (rw [if_pos HCN2.out, HCN2.out, Nat.sub_self]) | (rw [if_neg HCN2.out])
            · show entry.length - nn < entry.length
              omega)
end Go.Proofs.Ytenommboacjopaa
