/- disk.settle and (*disk.Disk).Flush by their contracts. -/
import Derived.Test.YtenommboacjopaaDisk3
namespace Go.Proofs.Ytenommboacjopaa
open Go.RowKit

set_option maxRecDepth 100000 in
set_option maxHeartbeats 1000000 in
theorem settle_any (w : World) (gd g k n size : Nat) (dur bs : List UInt8) (hd : BlkB w gd dur) (hg : BlkB w g bs) (hne : g ≠ gd) (hl : dur.length = n * size) (hb : bs.length = size) (hk : k < n) (h1 : 32 ≤ size) (h2 : size ≤ 1024) (h3 : n ≤ 16384) :
    Calls Try.prog 59 #[.slice (some ⟨gd, 0, none⟩) (n * size) (n * size), .int .i64 (size : Int), .agg #[.int .i64 (k : Int), .slice (some ⟨g, 0, none⟩) size size]] w (RetBlk gd (layW dur size (k, bs)) w) := by
  obtain ⟨a, e, N, HAe, HEe, HNe, hka, hkb, hwa, hwe, hs1, hs2, hs3, hs4, hkk, hs5, hs6⟩ := sector_nums hk h3 h1 h2
  have HD := Lib.hid hd
  have HG := Lib.hid hg
  have HL := Lib.hid hl
  have HB := Lib.hid hb
  have HNE := Lib.hid hne
  rw [show n * size = N from HNe.out.symm]
  have hgl := hd.lt
  have hgg := hg.lt
  clear hd hg hl hb hne
  go_enter Try.func59, Try.ntmps59
  go_wp2_with fail
  refine still_tail 8 (by kernel_rfl) (by kernel_rfl) ?_
  intro W hW
  have HC : Hid (Blk W w.heap.size 120 #[.int .i64 (k : Int), .slice (some ⟨g, 0, none⟩) size size]) := by rw [hW.out]; exact Blk.new _ _ _
  have HD1 : Hid (BlkB W gd dur) := by rw [hW.out]; exact HD.out.alloc _
  have HG1 : Hid (BlkB W g bs) := by rw [hW.out]; exact HG.out.alloc _
  have HO1 : Hid (Only (fun j => j = gd) w W) := by rw [hW.out]; exact ((Only.refl _ w).alloc _).drew
  clear hW
  have c0 := HC.out.at_ 0 (v := .int .i64 (k : Int)) rfl
  have c1 := HC.out.at_ 1 (v := .slice (some ⟨g, 0, none⟩) size size) rfl
  simp only [List.take_succ_cons, List.take_zero, List.drop_succ_cons, List.drop_zero]
  repeat still_step
  refine wpStill_nil ?_
  refine wpList_copy_bytes rfl (.tmp 11) (.tmp 13) rfl gd a (N - a) (N - a) (some ⟨g, 0, none⟩) size size dur bs rfl rfl HD1.out (by have h := HG1.out.rdB (off := 0) (n := size) (by rw [HB.out]; omega); rw [List.drop_zero, List.take_of_length_le (by rw [HB.out]; omega)] at h; exact h) (by have h5 := HEe.out; omega) (by rw [HL.out, ← HNe.out]; have h5 := HEe.out; omega) ?_
  intro W7 hz ho
  have HZ := Lib.hid hz
  have HO := Lib.hid ho
  clear hz ho
  go_wp2
  go_end0
  refine ⟨rfl, ?_, HO1.out.trans HO.out (fun _ _ h => h)⟩
  rw [layW, ← HAe.out]
  exact HZ.out

/-- The disk behind a flush that goes well. -/
def Dk.flush (D : Dk) : Dk := { D with dur := layAll D.dur D.size D.wait, wait := [], fl := D.fl + 1 }
theorem Dk.flush_ok {D : Dk} (h : DkOk D) : DkOk D.flush :=
  ⟨h.s1, h.s2, h.n1, h.n2, layAll_length _ h.len h.wt, (fun x hx => by cases hx), h.a1, h.a2, Nat.zero_le _⟩
def delAll (f : Int → Option Int) (l : List Wr) : Int → Option Int := l.foldl (fun f p => setAt f (p.1 : Int) none) f
theorem delAll_snoc (f : Int → Option Int) (l : List Wr) (p : Wr) : delAll f (l ++ [p]) = setAt (delAll f l) (p.1 : Int) none := by simp [delAll]
theorem delAll_at (f : Int → Option Int) (x : Int) (l : List Wr) : delAll f l x = none ∨ (delAll f l x = f x ∧ ∀ p ∈ l, (p.1 : Int) ≠ x) := by
  refine snoc_ind (P := fun l => delAll f l x = none ∨ (delAll f l x = f x ∧ ∀ p ∈ l, (p.1 : Int) ≠ x)) (.inr ⟨rfl, fun p hp => by cases hp⟩) ?_ l
  intro l p ih
  rw [delAll_snoc]
  unfold setAt
  by_cases h : x = (p.1 : Int)
  · exact .inl (by rw [if_pos h])
  · rw [if_neg h]
    rcases ih with ih | ⟨h1, h2⟩
    · exact .inl ih
    · refine .inr ⟨h1, fun q hq => ?_⟩
      rcases List.mem_append.1 hq with hq | hq
      · exact h2 q hq
      · simp at hq; subst hq; exact fun e => h e.symm
theorem latest_mem (x : Int) (l : List Wr) : latest l x = none ∨ ∃ p ∈ l, (p.1 : Int) = x := by
  refine snoc_ind (P := fun l => latest l x = none ∨ ∃ p ∈ l, (p.1 : Int) = x) (.inl (latest_nil x)) ?_ l
  intro l p ih
  rw [latest_snoc]
  unfold setAt
  by_cases h : x = (p.1 : Int)
  · exact .inr ⟨p, by simp, h.symm⟩
  · rw [if_neg h]
    rcases ih with ih | ⟨q, h1, h2⟩
    · exact .inl ih
    · exact .inr ⟨q, by simp [h1], h2⟩
theorem delAll_latest (l : List Wr) (x : Int) : delAll (latest l) l x = none := by
  rcases delAll_at (latest l) x l with h | ⟨h1, h2⟩
  · exact h
  · rcases latest_mem x l with h3 | ⟨p, hp, hx⟩
    · rw [h1, h3]
    · exact absurd hx (h2 p hp)

theorem flush_no (w : World) (B b : Nat) (D : Dk) (M : DkM) (hd : DiskAt w B b D M) (hdead : D.dead = true) :
    Calls Try.prog 51 #[.pointer (some ⟨b, 0, none⟩)] w (RetQ (.int .i64 10) w) := by
  have HZ : Hid (readyZ D 0 = 10) := by show _ = _; rw [readyZ, if_pos hdead]
  have HD := Lib.hid hd
  clear hd hdead
  go_enter Try.func51, Try.ntmps51
  go_wp2_with (go_at_call 77; refine (ready_any _ B b D M _ HD.out).mono ?_; rw [HZ.out]; rintro e w' ⟨rfl, nq, rfl⟩)
  go_ret
  exact ⟨rfl, nq, rfl⟩

set_option maxRecDepth 100000 in
set_option maxHeartbeats 4000000 in
theorem flush_any (w : World) (B b : Nat) (D : Dk) (M : DkM) (hd : DiskAt w B b D M) (hdead : D.dead = false) :
    Calls Try.prog 51 #[.pointer (some ⟨b, 0, none⟩)] w (RetStep (.int .i64 0) B b M D.flush w) := by
  have hn1 := hd.ok.n1
  have HZ : Hid (readyZ D 0 = 0) := by show _ = _; rw [readyZ, if_neg (by rw [hdead]; decide), if_neg (by omega)]
  have HX := Lib.hid hdead
  have HD := Lib.hid hd
  have HLEN : Hid (D.wait.length ≤ 4398046511104) := hd.ok.cnt
  obtain ⟨Aw, cw, hwv⟩ := own_slice hd.row
  have c2 := hd.c2
  rw [hwv] at c2
  have HWV := Lib.hid hwv
  clear hd hdead hn1 hwv
  go_enter Try.func51, Try.ntmps51
  go_wp2_with (go_at_call 77; refine (ready_any _ B b D M _ HD.out).mono ?_; rw [HZ.out]; rintro e w' ⟨rfl, nq, rfl⟩)
  clear c2
  go_loopw [16] (fun i wr => ∃ (k : Nat), k ≤ D.wait.length ∧ i = .int .i64 (k : Int) ∧ BlkB wr M.gd (layAll D.dur D.size (D.wait.take k)) ∧ IMap wr M.gm (delAll (latest D.wait) (D.wait.take k)) ∧ Only (fun j => j = M.gd ∨ j = M.gm) w wr) (fun i _ => D.wait.length - (intOf i).toNat)
  case atStart => exact ⟨0, Nat.zero_le _, rfl, HD.out.dur, HD.out.map, (Only.refl _ w).drewN nq⟩
  case round =>
    obtain ⟨k, hk, rfl, hb, hm, ho⟩ := hrel
    have HB := Lib.hid hb
    have HM := Lib.hid hm
    have HO := Lib.hid ho
    clear hb hm ho
    by_cases hlt : k < D.wait.length
    · obtain ⟨p, hp⟩ : ∃ p, D.wait[k]? = some p := ⟨_, List.getElem?_eq_getElem hlt⟩
      obtain ⟨r, cap, g, hv, hcap, hgs, hbg, hc1, hc2⟩ := HD.out.row_at hp
      have hps := HD.out.ok.wt p (List.mem_of_getElem? hp)
      rw [hps.2] at hc2
      have hv2 := HWV.out
      rw [hv] at hv2
      obtain ⟨rfl, rfl⟩ : some (⟨r, 0, none⟩ : Addr) = Aw ∧ cap = cw := by injection hv2 with e1 _ e2; exact ⟨e1, e2⟩
      have hrl := (HD.out.row.lt r (by rw [hv]; rfl)).2
      have hr1 : ¬ (r = M.gd ∨ r = M.gm) := by
        rintro (e | e)
        · exact own_blk_ne HD.out.row HD.out.dur (by decide) (by rw [hv, e]; rfl)
        · exact own_not_map HD.out.row HD.out.map r (by rw [hv]; rfl) e
      have hg1 : g ≠ M.gd := fun e => HD.out.gd (by rw [← e]; exact List.mem_of_getElem? hgs)
      have hg2 : ¬ (g = M.gd ∨ g = M.gm) := by
        rintro (e | e)
        · exact hg1 e
        · exact HD.out.map.not_blk hbg e
      have hb2 : ¬ (b = M.gd ∨ b = M.gm) := by
        rintro (e | e)
        · exact HD.out.dur.ne_ HD.out.blk (by decide) e.symm
        · exact HD.out.map.not_blk HD.out.blk e
      have d1 : wr.cell? ⟨r, k * 2, none⟩ = some (.int .i64 (p.1 : Int)) := (World.cell?_of_block (w := w) (HO.out.block r hrl hr1)).trans hc1
      have d2 : wr.cell? ⟨r, k * 2 + 1, none⟩ = some (.slice (some ⟨g, 0, none⟩) D.size D.size) := (World.cell?_of_block (w := w) (HO.out.block r hrl hr1)).trans hc2
      have HBG : Hid (BlkB wr g p.2) := hbg.only HO.out hg2
      have HBB : Hid (Blk wr b 110 (dkCells D M)) := HD.out.blk.only HO.out hb2
      have HG1 := Lib.hid hg1
      have HP := Lib.hid hp
      have HPS := Lib.hid hps
      clear hv hv2 hcap hgs hbg hc1 hc2 hrl hr1 hg1 hg2 hb2 hp hps
      go_wp2_with fail
      refine still_tail 9 (by kernel_rfl) (by kernel_rfl) ?_
      intro W hW
      have HBW : Hid (Blk W b 110 (dkCells D M)) := by rw [hW.out]; exact HBB.out.alloc _
      have HPW : Hid (Blk W wr.heap.size 120 #[.int .i64 (p.1 : Int), .slice (some ⟨g, 0, none⟩) D.size D.size]) := by rw [hW.out]; exact Blk.new _ _ _
      have HDW : Hid (BlkB W M.gd (layAll D.dur D.size (D.wait.take k))) := by rw [hW.out]; exact HB.out.alloc _
      have HGW : Hid (BlkB W g p.2) := by rw [hW.out]; exact HBG.out.alloc _
      have HMW : Hid (IMap W M.gm (delAll (latest D.wait) (D.wait.take k))) := by rw [hW.out]; exact HM.out.keep (Below.heap_alloc _ _ _ HM.out.lt)
      have HOW : Hid (Only (fun j => j = M.gd ∨ j = M.gm) w W) := by rw [hW.out]; exact (HO.out.alloc _).drew
      clear hW d1 d2 HBG HBB HB HM HO
      have c0 : W.cell? ⟨b, 0, none⟩ = some (.int .i64 (D.size : Int)) := HBW.out.at_ 0 rfl
      have c1 : W.cell? ⟨b, 1, none⟩ = some (.slice (some ⟨M.gd, 0, none⟩) (D.n * D.size) (D.n * D.size)) := HBW.out.at_ 1 rfl
      have e0 : W.cell? ⟨wr.heap.size, 0, none⟩ = some (.int .i64 (p.1 : Int)) := HPW.out.at_ 0 rfl
      have e1 : W.cell? ⟨wr.heap.size, 1, none⟩ = some (.slice (some ⟨g, 0, none⟩) D.size D.size) := HPW.out.at_ 1 rfl
      simp only [List.take_succ_cons, List.take_zero, List.drop_succ_cons, List.drop_zero]
      repeat still_step
      refine wpStill_nil ?_
      go_wp2_with fail
      refine (settle_any W M.gd g p.1 D.n D.size _ p.2 HDW.out HGW.out HG1.out (layAll_length _ HD.out.ok.len (fun x hx => HD.out.ok.wt x (List.mem_of_mem_take hx))) HPS.out.2 HPS.out.1 HD.out.ok.s1 HD.out.ok.s2 HD.out.ok.n2).mono ?_
      rintro e W3 ⟨rfl, hz3, ho3⟩
      have HB3 := Lib.hid hz3
      have HBW3 : Hid (Blk W3 b 110 (dkCells D M)) := HBW.out.only ho3 (HBW.out.ne_ HDW.out (by decide))
      have HPW3 : Hid (Blk W3 wr.heap.size 120 #[.int .i64 (p.1 : Int), .slice (some ⟨g, 0, none⟩) D.size D.size]) := HPW.out.only ho3 (HPW.out.ne_ HDW.out (by decide))
      have HMW3 : Hid (IMap W3 M.gm (delAll (latest D.wait) (D.wait.take k))) := HMW.out.keep (ho3.block _ HMW.out.lt (fun e => HMW.out.not_blk HDW.out e.symm))
      have HO3 : Hid (Only (fun j => j = M.gd ∨ j = M.gm) w W3) := HOW.out.trans ho3 (fun _ _ h => .inl h)
      clear hz3 ho3 c0 c1 e0 e1 HBW HPW HMW HOW HDW HGW
      go_wp2
      refine still_tail 6 (by kernel_rfl) (by kernel_rfl) ?_
      intro W4 hW4
      have HB4 : Hid (BlkB W4 M.gd (layW (layAll D.dur D.size (D.wait.take k)) D.size (p.1, p.2))) := by rw [hW4.out]; exact HB3.out
      have HM4 : Hid (IMap W4 M.gm (delAll (latest D.wait) (D.wait.take k))) := by rw [hW4.out]; exact HMW3.out
      have HO4 : Hid (Only (fun j => j = M.gd ∨ j = M.gm) w W4) := by rw [hW4.out]; exact HO3.out.drew
      have c3 : W4.cell? ⟨b, 3, none⟩ = some (.map (some M.gm)) := by rw [hW4.out]; exact HBW3.out.at_ 3 rfl
      have e0 : W4.cell? ⟨wr.heap.size, 0, none⟩ = some (.int .i64 (p.1 : Int)) := by rw [hW4.out]; exact HPW3.out.at_ 0 rfl
      clear hW4 HB3 HBW3 HPW3 HMW3 HO3
      simp only [List.take_succ_cons, List.take_zero, List.drop_succ_cons, List.drop_zero]
      repeat still_step
      refine wpStill_nil ?_
      refine wpList_idelete rfl (.tmp 33) (.tmp 35) 108 3 rfl Try.underlying108 Try.underlying3 M.gm _ (p.1 : Int) rfl rfl HM4.out ?_
      intro W5 hm5 ho5
      have hgm : M.gd ≠ M.gm := fun e => HM4.out.not_blk HB4.out e
      have HB5 : Hid (BlkB W5 M.gd (layAll D.dur D.size (D.wait.take (k + 1)))) := by
        have e : D.wait.take (k + 1) = D.wait.take k ++ [p] := by rw [List.take_add_one, HP.out]; rfl
        rw [e, layAll_snoc]
        exact HB4.out.only ho5 hgm
      have HM5 : Hid (IMap W5 M.gm (delAll (latest D.wait) (D.wait.take (k + 1)))) := by
        have e : D.wait.take (k + 1) = D.wait.take k ++ [p] := by rw [List.take_add_one, HP.out]; rfl
        rw [e, delAll_snoc]
        exact hm5
      have HO5 : Hid (Only (fun j => j = M.gd ∨ j = M.gm) w W5) := HO4.out.trans ho5 (fun _ _ h => .inr h)
      clear hm5 ho5 c3 e0 hgm
      have HLL := HLEN.out
      go_wp2
      go_roundw
      case rel => exact ⟨k + 1, by omega, by go_num, HB5.out, HM5.out, HO5.out⟩
      case measure => simp [intOf]; omega
    · obtain rfl : k = D.wait.length := by omega
      have hb2 : ¬ (b = M.gd ∨ b = M.gm) := by
        rintro (e | e)
        · exact HD.out.dur.ne_ HD.out.blk (by decide) e.symm
        · exact HD.out.map.not_blk HD.out.blk e
      have HBB : Hid (Blk wr b 110 (dkCells D M)) := HD.out.blk.only HO.out hb2
      have c8 : wr.cell? ⟨b, 8, none⟩ = some (.int .i64 (wrap64 D.fl)) := HBB.out.at_ 8 rfl
      have f2 := HBB.out.frozen 2
      have f8 := HBB.out.frozen 8
      have c2 : wr.cell? ⟨b, 2, none⟩ = some (.slice Aw D.wait.length cw) := by rw [← HWV.out]; exact HBB.out.at_ 2 rfl
      clear hb2
      go_wp2
      go_ret
      rw [wrap64_step]
      have hbl := (HBB.out.set_ 2 (.slice none 0 0)).set_ 8 (.int .i64 (wrap64 ((D.fl + 1 : Nat) : Int)))
      have hon : Only (fun j => j = b) wr ((wr.setCell ⟨b, 2, none⟩ (.slice none 0 0)).setCell ⟨b, 8, none⟩ (.int .i64 (wrap64 ((D.fl + 1 : Nat) : Int)))) :=
        ((Only.refl (fun j => j = b) wr).setCell (p := ⟨b, 2, none⟩) (fun _ => rfl) _).setCell (p := ⟨b, 8, none⟩) (fun _ => rfl) _
      have hB := HB.out
      have hM := HM.out
      rw [List.take_length] at hB hM
      have hM2 : IMap wr M.gm (latest []) := hM.congr fun x => by rw [delAll_latest, latest_nil]
      refine ⟨⟨M.gd, M.gm, .slice none 0 0, []⟩, rfl, ⟨Dk.flush_ok HD.out.ok, hbl, hB.only hon (hB.ne_ HBB.out (by decide)), World.ownsRow_nil _ _ _ _, rfl, (fun i p g hi _ => by cases hi), hM2.keep (hon.block _ hM2.lt (fun e => hM2.not_blk HBB.out e.symm)), (fun h => by cases h), HD.out.Bb, HD.out.Bd, HD.out.Bm, fun g hg => by cases hg⟩, ?_, ?_⟩
      · refine (HO.out.mono (G := M.foot b) (fun j _ h => ?_)).trans hon (fun j _ h => .inl h)
        rcases h with h | h
        · exact .inr (.inl h)
        · exact .inr (.inr (.inl h))
      · intro j hj
        rcases hj with rfl | rfl | rfl | hv | hg
        · exact .inl (.inl rfl)
        · exact .inl (.inr (.inl rfl))
        · exact .inl (.inr (.inr (.inl rfl)))
        · cases hv
        · cases hg
end Go.Proofs.Ytenommboacjopaa
