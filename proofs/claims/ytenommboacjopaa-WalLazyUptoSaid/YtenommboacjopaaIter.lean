/- The iterator of a log's records (the closure that wal.place.records hands back) by its contract. -/
import Derived.Test.YtenommboacjopaaSeq
import Derived.Test.YtenommboacjopaaPlay
import Derived.OwnWalkIn
import Derived.TacticsInMore
import Derived.LoopNIn
import Derived.LoopIn
namespace Go.Proofs.Ytenommboacjopaa
open Go.RowKit

/-- The first k records, the bytes they take, the reader behind them. -/
def runK (sec : Nat → List UInt8) (count room epoch : Nat) : Nat → Option (List (List UInt8) × Nat × Rst)
  | 0 => some ([], 0, ⟨0, true, []⟩)
  | k + 1 =>
    match runK sec count room epoch k with
    | none => none
    | some (rs, at_, R) =>
      match recF sec count room epoch at_ R with
      | (some r, R') => some (rs ++ [r], at_ + 2 + r.length, R')
      | (none, _) => none
theorem runK_snoc {sec : Nat → List UInt8} {count room epoch k at_ : Nat} {rs : List (List UInt8)} {R R' : Rst} {r : List UInt8} (h : runK sec count room epoch k = some (rs, at_, R)) (hr : recF sec count room epoch at_ R = (some r, R')) : runK sec count room epoch (k + 1) = some (rs ++ [r], at_ + 2 + r.length, R') := by
  rw [runK, h]
  simp only
  rw [hr]
theorem runK_end {sec : Nat → List UInt8} {count room epoch k at_ : Nat} {rs : List (List UInt8)} {R R' : Rst} (h : runK sec count room epoch k = some (rs, at_, R)) (hr : recF sec count room epoch at_ R = (none, R')) : ∀ m, runK sec count room epoch (k + 1 + m) = none := by
  intro m
  induction m with
  | zero =>
    rw [Nat.add_zero, runK, h]
    simp only
    rw [hr]
  | succ m ih =>
    show runK sec count room epoch ((k + 1 + m) + 1) = none
    rw [runK, ih]

/-- Where the iterator's own lies: the disk, the place, the error's cell and who points to it. -/
def itFoot (M : DkM) (b pb eb ec : Nat) (k : Nat) : Prop := M.foot b k ∨ k = pb ∨ k = eb ∨ k = ec
structure ItAt (w : World) (Bd b pb eb ec first count room epoch : Nat) (D : Dk) (M : DkM) : Prop where
  dk : DiskAt w Bd b D M
  pl : Blk w pb 95 #[.pointer (some ⟨b, 0, none⟩), .int .i64 (first : Int), .int .i64 (count : Int), .int .i64 (room : Int), .int .u64 (epoch : Int)]
  ep : Blk w eb 102 #[.pointer (some ⟨ec, 0, none⟩)]
  er : Blk w ec 29 #[.int .i64 0]
theorem ItAt.only {w w' : World} {Bd b pb eb ec first count room epoch : Nat} {D : Dk} {M : DkM} {F : Nat → Prop} (h : ItAt w Bd b pb eb ec first count room epoch D M) (ho : Only F w w') (hF : ∀ k, F k → ¬ itFoot M b pb eb ec k) : ItAt w' Bd b pb eb ec first count room epoch D M :=
  ⟨h.dk.only ho (fun k hk hf => hF k hf (.inl hk)), h.pl.only ho (fun hf => hF _ hf (.inr (.inl rfl))), h.ep.only ho (fun hf => hF _ hf (.inr (.inr (.inl rfl)))), h.er.only ho (fun hf => hF _ hf (.inr (.inr (.inr rfl))))⟩
theorem ItAt.lt {w : World} {Bd b pb eb ec first count room epoch : Nat} {D : Dk} {M : DkM} (h : ItAt w Bd b pb eb ec first count room epoch D M) : ∀ k, itFoot M b pb eb ec k → k < w.heap.size := by
  rintro k (hk | rfl | rfl | rfl)
  · exact (h.dk.foot_lt hk).2
  · exact h.pl.lt
  · exact h.ep.lt
  · exact h.er.lt

/-- All have come. -/
def itS (Bd b pb eb ec first count room epoch : Nat) (D : Dk) (M : DkM) (xs : List RecV) (W : World) : Prop :=
  ∃ at_ R R', runK (secOf D first) count room epoch xs.length = some (xs.map RecV.bs, at_, R) ∧ recF (secOf D first) count room epoch at_ R = (none, R') ∧ ItAt W Bd b pb eb ec first count room epoch { D with rd := D.rd + R'.reads } M
/-- A part has come. -/
def itSp (Bd b pb eb ec first count room epoch : Nat) (D : Dk) (M : DkM) (xs : List RecV) (W : World) : Prop :=
  ∃ at_ R, runK (secOf D first) count room epoch xs.length = some (xs.map RecV.bs, at_, R) ∧ ItAt W Bd b pb eb ec first count room epoch { D with rd := D.rd + R.reads } M
theorem itS_abides (Bd b pb eb ec first count room epoch : Nat) (D : Dk) (M : DkM) : AbidesS (itFoot M b pb eb ec) (itS Bd b pb eb ec first count room epoch D M) := by
  rintro xs W W' ⟨at_, R, R', h1, h2, h3⟩ ho
  exact ⟨at_, R, R', h1, h2, h3.only ho (fun k hk hf => hk hf)⟩
theorem itSp_abides (Bd b pb eb ec first count room epoch : Nat) (D : Dk) (M : DkM) : AbidesS (itFoot M b pb eb ec) (itSp Bd b pb eb ec first count room epoch D M) := by
  rintro xs W W' ⟨at_, R, h1, h3⟩ ho
  exact ⟨at_, R, h1, h3.only ho (fun k hk hf => hk hf)⟩

/-- The loop of the iterator. -/
structure ItLoop (Bd b pb eb ec rb first count room epoch : Nat) (D : Dk) (M : DkM) (J : List RecV → (Nat → Prop) → World → Prop) (pre : List RecV) (C : Nat → Prop) (at_ : Nat) (R : Rst) (hv : Value) (wr : World) : Prop where
  run : runK (secOf D first) count room epoch pre.length = some (pre.map RecV.bs, at_, R)
  three : 3 * pre.length ≤ at_
  rd : ReadAt wr Bd b rb rb first count room epoch { D with rd := D.rd + R.reads } M R at_ hv
  it : ItAt wr Bd b pb eb ec first count room epoch { D with rd := D.rd + R.reads } M
  inv : J pre C wr
  mine : ∀ k, C k → k < wr.heap.size ∧ ¬ itFoot M b pb eb ec k ∧ k ≠ rb ∧ blkOf hv ≠ some k
  low : ∀ k, itFoot M b pb eb ec k → k < rb

theorem ItLoop.it2 {Bd b pb eb ec rb first count room epoch at2 : Nat} {D : Dk} {M : DkM} {J : List RecV → (Nat → Prop) → World → Prop} {pre : List RecV} {C : Nat → Prop} {at_ : Nat} {R R' : Rst} {hv hv2 : Value} {wr w2 : World} (h : ItLoop Bd b pb eb ec rb first count room epoch D M J pre C at_ R hv wr)
    (hto : RdTo Bd b rb rb first count room epoch { D with rd := D.rd + R.reads } M R hv R' at2 hv2 wr w2) : ItAt w2 Bd b pb eb ec first count room epoch { D with rd := D.rd + R'.reads } M := by
  have hD : ({ D with rd := D.rd + R.reads + (R'.reads - R.reads) } : Dk) = { D with rd := D.rd + R'.reads } := by
    rw [show D.rd + R.reads + (R'.reads - R.reads) = D.rd + R'.reads from by have := hto.mono; omega]
  have hdk : DiskAt w2 Bd b { D with rd := D.rd + R'.reads } M := by rw [← hD]; exact hto.rdat.dk
  refine ⟨hdk, ?_, ?_, ?_⟩
  · refine h.it.pl.only hto.only ?_
    rintro (e | e | e)
    · exact absurd e (h.it.pl.ne_ h.it.dk.blk (by decide))
    · have := h.low pb (.inr (.inl rfl)); omega
    · obtain ⟨cs, hb⟩ := h.rd.row.blk pb e
      exact h.it.pl.ne_ hb (by decide) rfl
  · refine h.it.ep.only hto.only ?_
    rintro (e | e | e)
    · exact absurd e (h.it.ep.ne_ h.it.dk.blk (by decide))
    · have := h.low eb (.inr (.inr (.inl rfl))); omega
    · obtain ⟨cs, hb⟩ := h.rd.row.blk eb e
      exact h.it.ep.ne_ hb (by decide) rfl
  · refine h.it.er.only hto.only ?_
    rintro (e | e | e)
    · exact absurd e (h.it.er.ne_ h.it.dk.blk (by decide))
    · have := h.low ec (.inr (.inr (.inr rfl))); omega
    · obtain ⟨cs, hb⟩ := h.rd.row.blk ec e
      exact h.it.er.ne_ hb (by decide) rfl
theorem ItLoop.keepJ {Bd b pb eb ec rb first count room epoch at2 : Nat} {D : Dk} {M : DkM} {J : List RecV → (Nat → Prop) → World → Prop} {pre : List RecV} {C : Nat → Prop} {at_ : Nat} {R R' : Rst} {hv hv2 : Value} {wr w2 : World} (h : ItLoop Bd b pb eb ec rb first count room epoch D M J pre C at_ R hv wr) (hJ : Abides J)
    (hto : RdTo Bd b rb rb first count room epoch { D with rd := D.rd + R.reads } M R hv R' at2 hv2 wr w2) : J pre C w2 :=
  hJ _ _ _ _ h.inv (hto.only.mono fun k _ hf hc => by
    obtain ⟨a1, a2, a3, a4⟩ := h.mine k hc
    rcases hf with e | e | e
    · exact a2 (.inl (by rw [e]; exact .inl rfl))
    · exact a3 e
    · exact a4 e)
theorem ItAt.store {w : World} {Bd b pb eb ec first count room epoch : Nat} {D : Dk} {M : DkM} (h : ItAt w Bd b pb eb ec first count room epoch D M) : ItAt (w.setCell ⟨ec, 0, none⟩ (.int .i64 0)) Bd b pb eb ec first count room epoch D M := by
  have ho : Only (fun k => k = ec) w (w.setCell ⟨ec, 0, none⟩ (.int .i64 0)) := (Only.refl (fun k => k = ec) w).setCell (p := ⟨ec, 0, none⟩) (fun _ => rfl) _
  exact ⟨h.dk.only ho (fun k hk e => h.dk.not_foot h.er (by decide) (by decide) (by decide) (e ▸ hk)), h.pl.only ho (h.pl.ne_ h.er (by decide)), h.ep.only ho (h.ep.ne_ h.er (by decide)), h.er.set_ 0 _⟩
theorem ItLoop.next {Bd b pb eb ec rb first count room epoch : Nat} {D : Dk} {M : DkM} {J J' : List RecV → (Nat → Prop) → World → Prop} {pre : List RecV} {C C' : Nat → Prop} {at_ : Nat} {R R' : Rst} {hv hv2 : Value} {wr w2 w3 : World} {x : RecV} (h : ItLoop Bd b pb eb ec rb first count room epoch D M J pre C at_ R hv wr)
    (hr : recF (secOf D first) count room epoch at_ R = (some x.bs, R')) (hto : RdTo Bd b rb rb first count room epoch { D with rd := D.rd + R.reads } M R hv R' (at_ + 2 + x.bs.length) hv2 wr w2) (h1 : 1 ≤ x.bs.length)
    (hown : w2.ownsRow wr.heap.size 5 1 x.val x.bs.length (x.bs.map bv)) (hdis : ∀ g, blkOf hv2 = some g → x.val.ownBlock ≠ some g) (hj : J' (pre ++ [x]) C' w3) (ht : Turned C x C' w2 w3) :
    ItLoop Bd b pb eb ec rb first count room epoch D M J' (pre ++ [x]) C' (at_ + 2 + x.bs.length) R' hv2 w3 := by
  have hD : ({ D with rd := D.rd + R.reads + (R'.reads - R.reads) } : Dk) = { D with rd := D.rd + R'.reads } := by
    rw [show D.rd + R.reads + (R'.reads - R.reads) = D.rd + R'.reads from by have := hto.mono; omega]
  have hrd : ReadAt w2 Bd b rb rb first count room epoch { D with rd := D.rd + R'.reads } M R' (at_ + 2 + x.bs.length) hv2 := by rw [← hD]; exact hto.rdat
  have hblk := h.rd.blk.lt
  have hF : ∀ k, (C k ∨ x.val.ownBlock = some k) → ¬ itFoot M b pb eb ec k ∧ k ≠ rb ∧ blkOf hv2 ≠ some k := by
    intro k hk
    rcases hk with hk | hk
    · obtain ⟨a1, a2, a3, a4⟩ := h.mine k hk
      refine ⟨a2, a3, fun e => ?_⟩
      rcases hto.own k e with e2 | e2
      · exact a4 e2
      · omega
    · have hge := (hown.lt k hk).1
      refine ⟨fun e => ?_, by omega, fun e => hdis k e hk⟩
      have := h.low k e
      omega
  have hit2 := h.it2 hto
  have h3 := h.three
  refine ⟨?_, by rw [List.length_append, List.length_singleton]; omega, ?_, hit2.only ht.only (fun k hk => (hF k hk).1), hj, fun k hk => ?_, h.low⟩
  · rw [List.length_append, List.map_append]
    exact runK_snoc h.run hr
  · exact hrd.keep ht.only (fun k hk hf => (hF k hf).1 (.inl hk)) (fun hf => (hF rb hf).2.1 rfl) (fun g hg hf => (hF g hf).2.2 hg)
  · obtain ⟨ho, hlt⟩ := ht.own k hk
    refine ⟨hlt, ?_⟩
    rcases ho with ho | ho | ho
    · exact hF k (.inl ho)
    · exact hF k (.inr ho)
    · have hs2 := hto.only.size
      refine ⟨fun e => ?_, by omega, fun e => ?_⟩
      · have := h.low k e; omega
      · have := (hrd.row.lt k e).2; omega

set_option maxRecDepth 100000 in
set_option maxHeartbeats 4000000 in
theorem records1_stops (n : Nat) (hn : 1 ≤ n) (w : World) (Bd b pb eb ec first count room epoch : Nat) (D : Dk) (M : DkM) (h : ItAt w Bd b pb eb ec first count room epoch D M) (hal : D.dead = false) (hfit : first + count ≤ D.n) (hsz : room + 17 = D.size) (hc : count ≤ 64) :
    SeqR Fence.wide n Try.prog 74 #[.pointer (some ⟨pb, 0, none⟩), .pointer (some ⟨eb, 0, none⟩)] (itFoot M b pb eb ec) (itS Bd b pb eb ec first count room epoch D M) (itSp Bd b pb eb ec first count room epoch D M) w := by
  intro l J Jx W C0 hW hJ hJx hY h0 hC0
  have H := Lib.hid (h.only (Only.of_below (F := fun _ => False) hW) (fun k hk => hk.elim))
  have HJ := Lib.hid hJ
  have HY := Lib.hid hY
  have H0 := Lib.hid h0
  have HC0 := Lib.hid hC0
  clear h hW hJ hJx hY h0 hC0
  refine callsIn_of_wp Try.func74 rfl trivial ?_ rfl
  simp only [Try.ntmps74, List.size_toArray, List.length_cons, List.length_nil, Nat.reduceAdd, Nat.reduceSub, Array.replicate_succ, Array.replicate_zero, List.push_toArray, List.append_toArray, List.nil_append, List.cons_append]
  have p0 : W.cell? ⟨pb, 0, none⟩ = some (.pointer (some ⟨b, 0, none⟩)) := H.out.pl.at_ 0 rfl
  have p1 : W.cell? ⟨pb, 1, none⟩ = some (.int .i64 (first : Int)) := H.out.pl.at_ 1 rfl
  have p2 : W.cell? ⟨pb, 2, none⟩ = some (.int .i64 (count : Int)) := H.out.pl.at_ 2 rfl
  have p3 : W.cell? ⟨pb, 3, none⟩ = some (.int .i64 (room : Int)) := H.out.pl.at_ 3 rfl
  have p4 : W.cell? ⟨pb, 4, none⟩ = some (.int .u64 (epoch : Int)) := H.out.pl.at_ 4 rfl
  gi_wp2
  have HSTART : Hid (ItLoop Bd b pb eb ec W.heap.size first count room epoch D M J [] C0 0 ⟨0, true, []⟩ (.slice none 0 0) (W.alloc (.cells #[.pointer (some ⟨b, 0, none⟩), .int .i64 (first : Int), .int .i64 (count : Int), .int .i64 (room : Int), .int .u64 (epoch : Int), .int .i64 0, .bool true, .slice none 0 0, .int .i64 0] 131))) := by
    have hlt := H.out.lt
    have hit : ItAt (W.alloc (.cells #[.pointer (some ⟨b, 0, none⟩), .int .i64 (first : Int), .int .i64 (count : Int), .int .i64 (room : Int), .int .u64 (epoch : Int), .int .i64 0, .bool true, .slice none 0 0, .int .i64 0] 131)) Bd b pb eb ec first count room epoch D M := H.out.only (only_of_alloc (fun _ => False) W _) (fun k hk => hk.elim)
    refine ⟨rfl, Nat.zero_le _, ⟨hit.dk, hal, hfit, hsz, hc, fun k hk => hlt k (.inl hk), Blk.new W _ _, Nat.le_refl _, MidB.nil _ _, Nat.zero_le _, Nat.zero_le _, Nat.zero_le _⟩, hit, HJ.out _ _ _ _ H0.out (only_of_alloc _ W _), fun k hk => ?_, fun k hk => hlt k hk⟩
    have h1 := HC0.out k hk
    exact ⟨by rw [World.size_alloc]; omega, h1.2, by omega, fun e => by cases e⟩
  gi_loopw [5] (fun i wr => ∃ (pre : List RecV) (C : Nat → Prop) (at_ : Nat) (R : Rst) (hv : Value), i = .int .i64 (pre.length : Int) ∧ W.heap.size ≤ wr.heap.size ∧ ItLoop Bd b pb eb ec W.heap.size first count room epoch D M J pre C at_ R hv wr) (fun i _ => 64449 - (intOf i).toNat)
  case atStart => exact ⟨[], C0, 0, _, _, rfl, by simp, HSTART.out⟩
  case round =>
    obtain ⟨pre, C, at_, R, hv, rfl, hsW, hI⟩ := hrel
    have HI := Lib.hid hI
    have hn4 := hI.rd.n2.2.2.2
    have hle := hI.rd.le
    have h3 := hI.three
    clear hI HSTART
    rcases hr : recF (secOf D first) count room epoch at_ R with ⟨_ | r, R'⟩
    · have HR := Lib.hid hr
      clear hr
      gi_wp2_with (refine ⟨trivial, ?_⟩; gi_at_call 75; refine (callsIn_wide.2 (record_any wr Bd b W.heap.size W.heap.size first count room epoch at_ _ M R hv HI.out.rd)).mono ?_; rw [secOf_rd, HR.out]; rintro e w2 ⟨rfl, hv2, hto⟩; have HIT := Lib.hid (HI.out.it2 hto); have HJ2 := Lib.hid (HI.out.keepJ HJ.out hto); have q1 : w2.cell? ⟨eb, 0, none⟩ = some (.pointer (some ⟨ec, 0, none⟩)) := HIT.out.ep.at_ 0 rfl; have q2 : w2.cell? ⟨W.heap.size, 8, none⟩ = some (.int .i64 0) := hto.rdat.blk.at_ 8 rfl; have q3 : w2.cell? ⟨ec, 0, none⟩ = some (.int .i64 0) := HIT.out.er.at_ 0 rfl; have q4 := HIT.out.er.frozen 0; clear hto)
      refine bodyPost_ret (results_none rfl _ _ _) rfl ?_
      refine ⟨⟨_, rfl⟩, .inl ⟨pre, C, ⟨at_, R, R', HI.out.run, HR.out, HIT.out.store⟩, HJ.out _ _ _ _ HJ2.out ?_, fun k hk => (HI.out.mine k hk).2.1⟩⟩
      exact (Only.refl _ w2).setCell (p := ⟨ec, 0, none⟩) (fun _ hc => (HI.out.mine ec hc).2.1 (.inr (.inr (.inr rfl)))) _
    · have HR := Lib.hid hr
      clear hr
      gi_wp2_with (refine ⟨trivial, ?_⟩; gi_at_call 75; refine (callsIn_wide.2 (record_any wr Bd b W.heap.size W.heap.size first count room epoch at_ _ M R hv HI.out.rd)).mono ?_; rw [secOf_rd, HR.out]; rintro e w2 ⟨A2, c2, hv2, rfl, hl1, hl2, hown, hto, hdis⟩; have HOW := Lib.hid hown; have HTO := Lib.hid hto; have HDS := Lib.hid hdis; obtain ⟨fn, tmps, assign, body, hy, hR⟩ := HY.out pre ⟨r, A2, c2⟩ C w2 (HI.out.keepJ HJ.out hto) (Nat.le_trans hsW hto.only.size) (ownsRow_base hown hsW) (fun g hg hc => by { have h1 := (hown.lt g hg).1; have h2 := (HI.out.mine g hc).1; omega }) (fun k hc => Nat.lt_of_lt_of_le (HI.out.mine k hc).1 hto.only.size) (by omega) ⟨_, R', (by { rw [List.length_append, List.map_append]; exact runK_snoc HI.out.run HR.out }), HI.out.it2 hto⟩; dsimp only [RecV.val] at hy; clear hown hto hdis)
      refine hR.mono ?_
      rintro e W3 (⟨rfl, C', hj, ht⟩ | ⟨rfl, C', hj, ht⟩)
      · gi_wp2
        have hnx := HI.out.next (x := ⟨r, A2, c2⟩) HR.out HTO.out hl1 HOW.out HDS.out hj ht
        refine ⟨⟨pre ++ [⟨r, A2, c2⟩], C', _, R', hv2, by rw [List.length_append, List.length_singleton]; go_num, Nat.le_trans hsW (Nat.le_trans HTO.out.only.size ht.only.size), hnx⟩, ?_⟩
        simp [intOf]; omega
      · gi_wp2
        have hnx := HI.out.next (x := ⟨r, A2, c2⟩) HR.out HTO.out hl1 HOW.out HDS.out hj ht
        refine bodyPost_ret (results_none rfl _ _ _) rfl ?_
        exact ⟨⟨_, rfl⟩, .inr ⟨pre ++ [⟨r, A2, c2⟩], C', ⟨_, R', hnx.run, hnx.it⟩, hj, fun k hk => (hnx.mine k hk).2.1⟩⟩
end Go.Proofs.Ytenommboacjopaa
