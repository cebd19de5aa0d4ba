/- (*disk.Disk).Write by its contract. -/
import Derived.Test.YtenommboacjopaaDisk2
import Derived.Deep.RegionHeld3
import Derived.Deep.AppendLies
namespace Go.Proofs.Ytenommboacjopaa
open Go.RowKit

theorem infoW : (Try.prog.info? 120).map (fun i => (i.zero, i.size, i.bytes)) = some (some (.agg #[.int .i64 0, .slice none 0 0]), 2, 32) := by kernel_rfl

/-- The disk behind a write that it takes. -/
def Dk.write (D : Dk) (k : Nat) (bs : List UInt8) : Dk :=
  if D.armed = 0 then { D with wait := D.wait ++ [(k, bs)], dead := true }
  else { D with wait := D.wait ++ [(k, bs)], armed := if 0 < D.armed then D.armed - 1 else D.armed, wr := D.wr + 1 }
/-- What it answers. -/
def Dk.writeZ (D : Dk) : Int := if D.armed = 0 then 10 else 0

/-- A call that hands back v and turns the disk alone. -/
def RetStep (v : Value) (B b : Nat) (M : DkM) (D' : Dk) (w : World) (e : Ending) (w' : World) : Prop :=
  ∃ M', e = .returned v ∧ DiskAt w' B b D' M' ∧ Only (M.foot b) w w' ∧ ∀ k, M'.foot b k → M.foot b k ∨ w.heap.size ≤ k

theorem dk_write_ok {D : Dk} {k : Nat} {bs : List UInt8} (h : DkOk D) (hk : k < D.n) (hl : bs.length = D.size) (hcnt : D.wait.length + 1 ≤ 4398046511104) : DkOk (D.write k bs) := by
  have hw : ∀ x ∈ D.wait ++ [(k, bs)], x.1 < D.n ∧ x.2.length = D.size := by
    intro x hx
    rcases List.mem_append.1 hx with hx | hx
    · exact h.wt x hx
    · simp at hx; subst hx; exact ⟨hk, hl⟩
  have h1 := h.a1
  have h2 := h.a2
  unfold Dk.write
  split
  · exact ⟨h.s1, h.s2, h.n1, h.n2, h.len, hw, h1, h2, by simpa using hcnt⟩
  · refine ⟨h.s1, h.s2, h.n1, h.n2, h.len, hw, ?_, ?_, by simpa using hcnt⟩ <;> (simp only; split <;> omega)

/-- The ends of a write are put together. -/
theorem write_done {w w1 w' : World} {B b : Nat} {D D' : Dk} {M : DkM} {k gg cap g0 : Nat} {bs : List UInt8} (hd : DiskAt w B b D M)
    (hB1 : Blk w1 b 110 (dkCells D M)) (hU1 : BlkB w1 M.gd D.dur)
    (hR1 : w1.ownsRow B 120 2 (.slice (some ⟨gg, 0, none⟩) (D.wait.length + 1) cap) (D.wait.length + 1) (wCells D.wait M.gs ++ [.int .i64 (k : Int), .slice (some ⟨g0, 0, none⟩) bs.length bs.length]))
    (hG1 : ∀ (i : Nat) (p : Wr) (g : Nat), D.wait[i]? = some p → M.gs[i]? = some g → BlkB w1 g p.2) (hN1 : BlkB w1 g0 bs) (hg0 : w.heap.size ≤ g0)
    (hM1 : IMap w1 M.gm (setAt (latest D.wait) (k : Int) (some (D.wait.length : Int)))) (hO1 : Only (fun j => j = M.gm ∨ M.wv.ownBlock = some j) w w1) (hat : M.wv.ownBlock = some gg ∨ w.heap.size ≤ gg)
    (hb' : Blk w' b 110 (dkCells D' ⟨M.gd, M.gm, .slice (some ⟨gg, 0, none⟩) (D.wait.length + 1) cap, M.gs ++ [g0]⟩)) (ho' : Only (fun j => j = b) w1 w')
    (e1 : D'.dur = D.dur) (e2 : D'.wait = D.wait ++ [(k, bs)]) (hok : DkOk D') :
    ∃ M', DiskAt w' B b D' M' ∧ Only (M.foot b) w w' ∧ ∀ j, M'.foot b j → M.foot b j ∨ w.heap.size ≤ j := by
  have hl := hd.len
  have hbB := hd.blk.lt
  refine ⟨⟨M.gd, M.gm, .slice (some ⟨gg, 0, none⟩) (D.wait.length + 1) cap, M.gs ++ [g0]⟩, ⟨hok, hb', ?_, ?_, ?_, ?_, ?_, ?_, hd.Bb, hd.Bd, hd.Bm, ?_⟩, ?_, ?_⟩
  · rw [e1]; exact hU1.only ho' (hU1.ne_ hB1 (by decide))
  · rw [e2, List.length_append, wCells_snoc _ _ _ _ hl]
    have hne := own_blk_ne hR1 hB1 (by decide)
    exact ownsRow_only hR1 ho' (fun g hg e => hne (by rw [hg, e]))
  · rw [e2]; simp [hl]
  · rw [e2]
    intro i p g hi hg
    by_cases hlt : i < D.wait.length
    · rw [List.getElem?_append_left hlt] at hi
      rw [List.getElem?_append_left (by omega)] at hg
      have hx := hG1 i p g hi hg
      exact hx.only ho' (hx.ne_ hB1 (by decide))
    · have hi' : i = D.wait.length := by
        have := (List.getElem?_eq_some_iff.1 hi).1
        simp at this; omega
      subst hi'
      rw [List.getElem?_append_right (Nat.le_refl _)] at hi
      rw [List.getElem?_append_right (by omega), hl] at hg
      simp at hi hg
      subst hi; subst hg
      exact hN1.only ho' (hN1.ne_ hB1 (by decide))
  · rw [e2, latest_snoc]
    exact hM1.keep (ho'.block _ hM1.lt (fun e => hM1.not_blk hB1 e.symm))
  · intro hm
    rcases List.mem_append.1 hm with hm | hm
    · exact hd.gd hm
    · simp at hm
      have := hd.dur.lt
      omega
  · intro g hg
    rcases List.mem_append.1 hg with hg | hg
    · exact hd.Bs g hg
    · simp at hg
      have := hd.Bb
      omega
  · have h1 : Only (M.foot b) w w1 := hO1.mono fun j _ h => by
      rcases h with h | h
      · exact .inr (.inr (.inl h))
      · exact .inr (.inr (.inr (.inl h)))
    exact h1.trans ho' fun j _ h => .inl h
  · intro j hj
    rcases hj with rfl | rfl | rfl | hv | hg
    · exact .inl (.inl rfl)
    · exact .inl (.inr (.inl rfl))
    · exact .inl (.inr (.inr (.inl rfl)))
    · have : gg = j := by simpa [Value.ownBlock] using hv
      subst this
      rcases hat with h | h
      · exact .inl (.inr (.inr (.inr (.inl h))))
      · exact .inr h
    · rcases List.mem_append.1 hg with hg | hg
      · exact .inl (.inr (.inr (.inr (.inr hg))))
      · simp at hg; subst hg; exact .inr hg0

set_option maxRecDepth 100000 in
set_option maxHeartbeats 2000000 in
theorem write_any (w : World) (B b : Nat) (D : Dk) (M : DkM) (k n c : Nat) (A : Option Addr) (bs : List UInt8) (hd : DiskAt w B b D M) (hdead : D.dead = false) (hk : k < D.n) (hr : RdB w A n bs) (hn : n = D.size) (hcnt : D.wait.length + 1 ≤ 4398046511104) :
    Calls Try.prog 73 #[.pointer (some ⟨b, 0, none⟩), .int .i64 (k : Int), .slice A n c] w (RetStep (.int .i64 D.writeZ) B b M (D.write k bs) w) := by
  subst hn
  have HZ : Hid (readyZ D (k : Int) = 0) := by show _ = _; rw [readyZ, if_neg (by rw [hdead]; decide), if_neg (by omega)]
  have c0 := hd.c0
  have HD := Lib.hid hd
  have HX := Lib.hid hdead
  have HR := Lib.hid hr
  have HC := Lib.hid hcnt
  clear hd hdead hr hcnt
  go_enter Try.func73, Try.ntmps73
  go_wp2_with (first
    | (go_at_call 77; refine (ready_any _ B b D M _ HD.out).mono ?_; rw [HZ.out]; rintro e w' ⟨rfl, nq, rfl⟩))
  obtain ⟨Aw, cw, hwv⟩ := own_slice HD.out.row
  refine still_tail 10 (by kernel_rfl) (by kernel_rfl) ?_
  intro W hW
  have HD1 : Hid (DiskAt W B b D M) := by rw [hW.out]; exact (HD.out.drewN nq).drew
  have HO1 : Hid (Below w.heap.size w W) := by rw [hW.out]; exact (below_drewN (Below.refl _ w) nq).drew
  have c2 := HD1.out.c2
  have c3 := HD1.out.c3
  rw [hwv] at c2
  have HWV := Lib.hid hwv
  clear hW hwv c0
  simp only [List.take_succ_cons, List.take_zero, List.drop_succ_cons, List.drop_zero]
  repeat still_step
  refine wpStill_nil ?_
  refine wpList_iupdate rfl (.tmp 24) (.tmp 25) (.tmp 30) 108 rfl Try.underlying108 Try.underlying3 M.gm (latest D.wait) (k : Int) (D.wait.length : Int) rfl rfl rfl HD1.out.map ?_
  intro W2 hm2 ho2
  have n2 : b ≠ M.gm := HD1.out.map.not_blk HD1.out.blk
  have HB2 : Hid (Blk W2 b 110 (dkCells D M)) := HD1.out.blk.only ho2 n2
  have HU2 : Hid (BlkB W2 M.gd D.dur) := HD1.out.dur.only ho2 (HD1.out.map.not_blk HD1.out.dur)
  have HW2 : Hid (W2.ownsRow B 120 2 (.slice Aw D.wait.length cw) D.wait.length (wCells D.wait M.gs)) := by
    rw [← HWV.out]; exact ownsRow_only HD1.out.row ho2 (own_not_map HD1.out.row HD1.out.map)
  have HG2 : Hid (∀ (i : Nat) (p : Wr) (g : Nat), D.wait[i]? = some p → M.gs[i]? = some g → BlkB W2 g p.2) := fun i p g hi hg => (HD1.out.bytes i p g hi hg).only ho2 (HD1.out.map.not_blk (HD1.out.bytes i p g hi hg))
  have HM2 : Hid (IMap W2 M.gm (setAt (latest D.wait) (k : Int) (some (D.wait.length : Int)))) := hm2
  have HO2 : Hid (Only (fun j => j = M.gm) w W2) := (Only.of_below HO1.out).trans ho2 (fun _ _ h => h)
  have HR2 : Hid (RdB W2 A D.size bs) := Rd.only_map (HR.out.below HO1.out) HD1.out.map ho2
  have c2' : W2.cell? ⟨b, 2, none⟩ = some (.slice Aw D.wait.length cw) := by rw [← HWV.out]; exact HB2.out.at_ 2 rfl
  have f2 := HB2.out.frozen 2
  have hblt := HB2.out.lt
  have hBsz : B ≤ W2.heap.size := by have := HO2.out.size; have h2 := HD.out.blk.lt; have h3 := HD.out.Bb; omega
  have H1 : Hid (D.wait.length + 1 ≤ maxLen) := by have := HC.out; show _ ≤ _; unfold maxLen; omega
  have H2 : Hid ((D.wait.length + 1) * 32 ≤ 140737488355328) := by have := HC.out; show _ ≤ _; omega
  have H3 : Hid (D.size ≤ 140737488355328) := by have := HD.out.ok.s2; show _ ≤ _; omega
  obtain ⟨i0, hi0, hz0, hz1, hz2⟩ := info_parts infoW
  have hS : Hid (∀ W', Blk W' b 110 (dkCells D M) → W'.cell? ⟨b, 2, none⟩ = some (.slice Aw D.wait.length cw) ∧ W'.frozen? ⟨b, 2, none⟩ = false) := fun W' h => ⟨by rw [← HWV.out]; exact h.at_ 2 rfl, h.frozen 2⟩
  have hne := own_blk_ne HW2.out HB2.out (by decide)
  clear hm2 ho2 c2 c3 n2
  go_wp2
  go_region_law (first | (refine step_append_lies _ (by rfl) _ _ _ (by rfl) B 120 i0 _ 2 32 Try.underlying107 hi0 hz0 hz1 hz2 rfl (by omega) (.slice Aw D.wait.length cw) D.wait.length (wCells D.wait M.gs) (by rfl) (((HW2.out.alloc _).alloc _).drew) ⟨W2.heap.size + 1, 0, none⟩ 1 1 [.int .i64 (k : Int), .slice (some ⟨W2.heap.size, 0, none⟩) D.size D.size] (by rfl) (by rfl) (World.news_of_block (cs := #[.int .i64 (k : Int), .slice (some ⟨W2.heap.size, 0, none⟩) D.size D.size]) (t := 120) (fr := (0, 0)) (by have h := heap_alloc_new (W2.alloc (Obj.cells (List.map bv bs).toArray 5)) (Obj.cells #[Value.int IntKind.i64 (k : Int), Value.slice (some { block := W2.heap.size, off := 0 }) D.size D.size] 120); rw [World.size_alloc] at h; exact h)) (by simp [Value.oneCell']) (by omega) H1.out H2.out (by simp; omega) (W2.heap.size + 2) (by simp) ?_; intro gg cap w1 hown1 hgrow hat hlt; have HBw := Lib.hid ((((HB2.out.alloc _).alloc _).drew).grown hgrow (Ne.symm hne)); have hcw := (hS.out w1 HBw.out).1; have hfw := (hS.out w1 HBw.out).2) | (go_simp; go_at_call 47; refine (clone_any _ _ _ bs _ (HR2.out.below ((Below.refl _ _).drew)) H3.out).mono ?_; rintro e w' ⟨rfl, rfl⟩))
  all_goals (rename_i K hK; refine hK _ _ ?_; clear hK)
  all_goals (
    have hbl : b < w1.heap.size := HBw.out.lt
    have HBs := Lib.hid (HBw.out.set_ 2 (.slice (some ⟨gg, 0, none⟩) (D.wait.length + 1) cap))
    have HF : Hid (∀ w' D', Blk w' b 110 (dkCells D' ⟨M.gd, M.gm, .slice (some ⟨gg, 0, none⟩) (D.wait.length + 1) cap, M.gs ++ [W2.heap.size]⟩) → Only (fun j => j = b) w1 w' → D'.dur = D.dur → D'.wait = D.wait ++ [(k, bs)] → DkOk D' → ∃ M', DiskAt w' B b D' M' ∧ Only (M.foot b) w w' ∧ ∀ j, M'.foot b j → M.foot b j ∨ w.heap.size ≤ j) := fun w' D' hb' ho' e1 e2 hok => by
      have hbs : bs.length = D.size := HR.out.blen
      have ho2 := HO2.out.size
      have hk1 : ∀ {g : Nat} {t : TypeId} {cs : Array Value}, Blk W2 g t cs → 120 ≠ t → Blk w1 g t cs := fun h hne => (((h.alloc _).alloc _).drew).grown hgrow (Ne.symm (own_blk_ne HW2.out h hne))
      have hnew : Blk w1 W2.heap.size 5 (bs.map bv).toArray := ((((Blk.new W2 5 (bs.map bv).toArray).alloc (Obj.cells #[Value.int IntKind.i64 (k : Int), Value.slice (some { block := W2.heap.size, off := 0 }) D.size D.size] 120)).drew).grown hgrow (fun e => by have h3 := (HW2.out.lt _ e.symm).2; omega))
      have hmap : IMap w1 M.gm (setAt (latest D.wait) (k : Int) (some (D.wait.length : Int))) := by
        have hmlt := HM2.out.lt
        refine HM2.out.keep ?_
        rw [hgrow.block M.gm (by simp; omega) (fun e => own_not_map HW2.out HM2.out M.gm e.symm rfl)]
        exact (Below.heap_alloc _ _ _ (by simp; omega)).trans (Below.heap_alloc _ _ _ hmlt)
      have honly : Only (fun j => j = M.gm ∨ M.wv.ownBlock = some j) w w1 := ((((HO2.out.mono (fun j _ h => Or.inl h)).alloc _).alloc _).drew).grown hgrow (fun j e _ => .inr (by rw [HWV.out]; exact e))
      refine write_done (g0 := W2.heap.size) HD.out HBw.out (hk1 HU2.out (by decide)) (by rw [hbs]; exact hown1) (fun i p g hi hg => hk1 (HG2.out i p g hi hg) (by decide)) hnew ho2 hmap honly ?_ hb' ho' e1 e2 hok
      rcases hat with h | h
      · exact .inl (by rw [HWV.out]; exact h)
      · exact .inr (by omega)
    have HO : Hid (DkOk (D.write k bs)) := dk_write_ok HD.out.ok hk HR.out.blen HC.out
    have HLT : Hid (b < w1.heap.size) := hbl
    have ha1 := HD.out.ok.a1
    have ha2 := HD.out.ok.a2
    clear hown1 hgrow hat hcw hfw hlt hbl hblt hBsz hne hS HG2 H1 H2 H3 HM2 HU2 HW2 HO2 HR2 HB2 HR HC
    refine at_world ?_
    intro Ws hWs
    have HB3 : Hid (Blk Ws b 110 (dkCells { D with dead := false } ⟨M.gd, M.gm, .slice (some ⟨gg, 0, none⟩) (D.wait.length + 1) cap, M.gs ++ [W2.heap.size]⟩)) := by
      rw [hWs.out]
      have h := HBs.out
      show Blk _ _ _ (dkCells { D with dead := false } _)
      rw [show ({ D with dead := false } : Dk) = D from by rw [← HX.out]]
      exact h
    have HO3 : Hid (Only (fun j => j = b) w1 Ws) := by
      rw [hWs.out]
      exact (Only.refl (fun j => j = b) w1).setCell (p := ⟨b, 2, none⟩) (fun _ => rfl) _
    have c4 : Ws.cell? ⟨b, 4, none⟩ = some (.int .i64 D.armed) := HB3.out.at_ 4 rfl
    have f4 := HB3.out.frozen 4
    have c5 : Ws.cell? ⟨b, 5, none⟩ = some (.bool false) := HB3.out.at_ 5 rfl
    have f5 := HB3.out.frozen 5
    have c7 : Ws.cell? ⟨b, 7, none⟩ = some (.int .i64 (wrap64 D.wr)) := HB3.out.at_ 7 rfl
    have f7 := HB3.out.frozen 7
    clear hWs HBs HBw
    clear f2 c2' hi0 hz0 hz1 hz2 hk
    rcases Int.lt_trichotomy D.armed 0 with h | h | h
    · have hn0 : ¬ D.armed = 0 := by omega
      have hn1 : ¬ 0 < D.armed := by omega
      have HN0 := Lib.hid hn0
      have HN1 := Lib.hid hn1
      clear h ha1 ha2
      go_wp2
      go_ret
      rw [wrap64_step]
      have hz : D.writeZ = 0 := by rw [Dk.writeZ, if_neg HN0.out]
      have hw : D.write k bs = { D with wait := D.wait ++ [(k, bs)], wr := D.wr + 1 } := by rw [Dk.write, if_neg HN0.out, if_neg (by have := HN1.out; omega)]
      obtain ⟨M', r1, r2, r3⟩ := HF.out (Ws.setCell ⟨b, 7, none⟩ (.int .i64 (wrap64 ((D.wr + 1 : Nat) : Int)))) (D.write k bs) (by
        have hb := HB3.out.set_ 7 (.int .i64 (wrap64 ((D.wr + 1 : Nat) : Int)))
        rw [hw, show D.dead = false from HX.out]
        exact hb) (HO3.out.setCell (p := ⟨b, 7, none⟩) (fun _ => rfl) _) (by rw [hw]) (by rw [hw]) HO.out
      exact ⟨M', by rw [hz]; rfl, r1, r2, r3⟩
    · have HN0 := Lib.hid h
      rw [h] at c4
      clear h ha1 ha2
      go_wp2
      go_ret
      have hz : D.writeZ = 10 := by rw [Dk.writeZ, if_pos HN0.out]
      have hw : D.write k bs = { D with wait := D.wait ++ [(k, bs)], dead := true } := by rw [Dk.write, if_pos HN0.out]
      obtain ⟨M', r1, r2, r3⟩ := HF.out _ (D.write k bs) (by
        have hb := HB3.out.set_ 5 (.bool true)
        rw [hw]
        exact hb) (HO3.out.setCell (p := ⟨b, 5, none⟩) (fun _ => rfl) _) (by rw [hw]) (by rw [hw]) HO.out
      exact ⟨M', by rw [hz]; rfl, r1, r2, r3⟩
    · have hn0 : ¬ D.armed = 0 := by omega
      have hwr : wrap64 (D.armed - 1) = D.armed - 1 := wrap64_in (by omega) (by omega)
      have HN0 := Lib.hid hn0
      have HN1 := Lib.hid h
      have HWR := Lib.hid hwr
      clear ha1 ha2 hwr
      go_wp2
      go_ret
      rw [wrap64_step, HWR.out]
      have hz : D.writeZ = 0 := by rw [Dk.writeZ, if_neg HN0.out]
      have hw : D.write k bs = { D with wait := D.wait ++ [(k, bs)], armed := D.armed - 1, wr := D.wr + 1 } := by rw [Dk.write, if_neg HN0.out, if_pos HN1.out]
      obtain ⟨M', r1, r2, r3⟩ := HF.out ((Ws.setCell ⟨b, 4, none⟩ (.int .i64 (D.armed - 1))).setCell ⟨b, 7, none⟩ (.int .i64 (wrap64 ((D.wr + 1 : Nat) : Int)))) (D.write k bs) (by
        have hb := (HB3.out.set_ 4 (.int .i64 (D.armed - 1))).set_ 7 (.int .i64 (wrap64 ((D.wr + 1 : Nat) : Int)))
        rw [hw, show D.dead = false from HX.out]
        exact hb) ((HO3.out.setCell (p := ⟨b, 4, none⟩) (fun _ => rfl) _).setCell (p := ⟨b, 7, none⟩) (fun _ => rfl) _) (by rw [hw]) (by rw [hw]) HO.out
      exact ⟨M', by rw [hz]; rfl, r1, r2, r3⟩)
end Go.Proofs.Ytenommboacjopaa
