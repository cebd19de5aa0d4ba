/- arborlaw5.WalLazy walked: it answers true. -/
import Derived.Test.YtenommboacjopaaRecs
import Derived.Test.YtenommboacjopaaLaw2
namespace Go.Proofs.Ytenommboacjopaa
open Go.RowKit Go.Shelf
attribute [local go_sem] Oper.semAt_some

/-- What the loop of WalLazy keeps. -/
structure LazyC (w4 : World) (foot : Nat → Prop) (sb : Nat) (pre : List RecV) (C : Nat → Prop) (W : World) : Prop where
  own : ∀ k, C k ↔ k < w4.heap.size ∧ ¬ foot k
  only : Only (fun k => foot k ∨ k = sb) w4 W
  seen : Blk W sb 3 #[.int .i64 (pre.length : Int)]
  sb : sb < w4.heap.size ∧ ¬ foot sb
theorem LazyC.keep {w4 : World} {foot : Nat → Prop} {sb : Nat} {pre : List RecV} {C : Nat → Prop} {W W' : World} (h : LazyC w4 foot sb pre C W) (ho : Only (fun k => ¬ C k) W W') : LazyC w4 foot sb pre C W' := by
  refine ⟨h.own, ⟨ho.os.trans h.only.os, ho.tape.trans h.only.tape, ho.output.trans h.only.output, Nat.le_trans h.only.size ho.size, fun k hk hf => ?_⟩, h.seen.only ho (fun x => x ((h.own sb).2 h.sb)), h.sb⟩
  exact (ho.block k (Nat.lt_of_lt_of_le hk h.only.size) (fun x => x ((h.own k).2 ⟨hk, fun hx => hf (.inl hx)⟩))).trans (h.only.block k hk hf)
def lazyI (w4 : World) (foot : Nat → Prop) (sb : Nat) (n : Int) (pre : List RecV) (C : Nat → Prop) (W : World) : Prop := LazyC w4 foot sb pre C W ∧ (n < 0 ∨ (pre.length : Int) ≤ n)
def lazyX (w4 : World) (foot : Nat → Prop) (sb : Nat) (n : Int) (c : Code) (pre : List RecV) (C : Nat → Prop) (W : World) : Prop := c = .exit 0 ∧ LazyC w4 foot sb pre C W ∧ (pre.length : Int) = n + 1 ∧ 0 ≤ n
theorem lazyI_abides (w4 : World) (foot : Nat → Prop) (sb : Nat) (n : Int) : Abides (lazyI w4 foot sb n) := fun _ _ _ _ h ho => ⟨h.1.keep ho, h.2⟩
theorem lazyX_abides (w4 : World) (foot : Nat → Prop) (sb : Nat) (n : Int) (c : Code) : Abides (lazyX w4 foot sb n c) := fun _ _ _ _ h ho => ⟨h.1, h.2.1.keep ho, h.2.2⟩
/-- A round's end: seen is one more. -/
theorem LazyC.next {w4 : World} {foot : Nat → Prop} {sb : Nat} {pre : List RecV} {C : Nat → Prop} {W W2 : World} {x : RecV} (h : LazyC w4 foot sb pre C W) (h2 : Only (fun _ => False) W W2) : LazyC w4 foot sb (pre ++ [x]) C (W2.setCell ⟨sb, 0, none⟩ (.int .i64 ((pre.length : Int) + 1))) ∧ Turned C x C W (W2.setCell ⟨sb, 0, none⟩ (.int .i64 ((pre.length : Int) + 1))) := by
  have hC : C sb := (h.own sb).2 h.sb
  have ho : Only (fun k => k = sb) W (W2.setCell ⟨sb, 0, none⟩ (.int .i64 ((pre.length : Int) + 1))) := Only.setCell (F := fun k => k = sb) (h2.mono (fun _ _ hf => hf.elim)) (p := ⟨sb, 0, none⟩) (fun _ => rfl) _
  refine ⟨⟨h.own, h.only.trans ho (fun k _ e => .inr e), ?_, h.sb⟩, ho.mono (fun k _ e => .inl (by rw [e]; exact hC)), fun k hk => ⟨.inl hk, ?_⟩⟩
  · have hb := (h.seen.only h2 (fun x => x)).set_ 0 (.int .i64 ((pre.length : Int) + 1))
    rw [List.length_append, List.length_singleton]
    have e : ((pre.length + 1 : Nat) : Int) = (pre.length : Int) + 1 := by omega
    rw [e]
    exact hb
  · exact Nat.lt_of_lt_of_le ((h.own k).1 hk).1 (Nat.le_trans h.only.size ho.size)
/-- The record that comes is the next of T. -/
theorem Holds.one {sec : Nat → List UInt8} {count room epoch : Nat} {T : List (List UInt8)} (h : Holds sec count room epoch (streamB T)) (hT : ∀ r ∈ T, 1 ≤ r.length ∧ r.length ≤ 1024) {i at_ : Nat} {rs : List (List UInt8)} {R : Rst} (hr : runK sec count room epoch i = some (rs, at_, R)) :
    i ≤ T.length ∧ rs = T.take i ∧ at_ = (streamB (T.take i)).length ∧ R = Go.Proofs.Ytenommboacjopaa.rs room (streamB T) (jn room (streamB (T.take i)).length) := by
  have hle : i ≤ T.length := by
    rcases Nat.lt_or_ge T.length i with hlt | hge
    · obtain ⟨R', he, _⟩ := h.ends
      have := runK_end (h.runs hT T.length (Nat.le_refl _)) he (i - T.length - 1)
      rw [show T.length + 1 + (i - T.length - 1) = i from by omega, hr] at this
      cases this
    · exact hge
  have h2 := h.runs hT i hle
  rw [hr] at h2
  injection h2 with h2
  injection h2 with h3 h2
  injection h2 with h4 h5
  exact ⟨hle, h3, h4, h5⟩
theorem idx_wrap {i i1 m : Nat} (h1 : i1 = i + 1) (h2 : i1 ≤ m) (h3 : m ≤ 64 * 1007) : wrap64 ((i : Int) + 1) = (i1 : Int) := by
  rw [h1]
  exact wrap64_in (by omega) (by omega)
theorem streamB_many (T : List (List UInt8)) : T.length ≤ (streamB T).length := by
  induction T with
  | nil => exact Nat.zero_le _
  | cons r T ih =>
    have e : streamB (r :: T) = (leB r.length 2 ++ r) ++ streamB T := by simp [streamB]
    rw [e, List.length_append, List.length_append, leB_length, List.length_cons]
    omega
theorem func_not_nil (pb : Nat) (u : World) : (binOp BinOp.eql 66 (Value.func (Fn.func 55) #[] #[Value.pointer (some { block := pb, off := 0 })]) Value.nilFunc).run Try.prog u = .ok (.bool false) u := by kernel_rfl
theorem stats_x (w : World) (B b : Nat) (D : Dk) (M : DkM) (x1 x2 x3 : Int) (hd : DiskAt w B b D M) (h1 : wrap64 (D.rd : Int) = x1) (h2 : wrap64 (D.wr : Int) = x2) (h3 : wrap64 (D.fl : Int) = x3) :
    Calls Try.prog 22 #[.pointer (some ⟨b, 0, none⟩)] w (RetW (.agg #[.int .i64 x1, .int .i64 x2, .int .i64 x3]) (w.alloc (.cells #[.int .i64 x1, .int .i64 x2, .int .i64 x3] 50))) := by
  subst h1 h2 h3
  exact stats_any w B b D M hd
theorem wrap_diff (a e : Nat) (he : e ≤ 1000) : wrap64 (wrap64 ((a + e : Nat) : Int) - wrap64 (a : Int)) = (e : Int) := by
  unfold wrap64
  omega
/-- The way out: the mark is come to. -/
theorem lazy_out {w W Wf : World} {rbk D0 : Nat} {v : Bool} (hK : W.heap[D0]? = some (.deferred (some []))) (hr : Blk Wf rbk 4 #[.bool v]) (hrW : ∃ v0, Blk W rbk 4 #[v0]) (ho : Only (fun k => k = rbk) W Wf) (hb : Below w.heap.size w W) (h1 : w.heap.size ≤ rbk) (h2 : w.heap.size ≤ D0) :
    Wf.heap[D0]? = some (.deferred (some [])) ∧ (Wf.putObj D0 (.deferred none)).cell? ⟨rbk, 0, none⟩ = some (.bool v) ∧ Below w.heap.size w (Wf.putObj D0 (.deferred none)) := by
  obtain ⟨v0, hv0⟩ := hrW
  have hne : D0 ≠ rbk := by
    rintro rfl
    unfold Blk at hv0
    rw [hv0] at hK
    cases hK
  have hlt : D0 < W.heap.size := (Array.getElem?_eq_some_iff.1 hK).1
  have ho2 : Only (fun k => k = D0) Wf (Wf.putObj D0 (.deferred none)) := only_putObj _ _ _ _ rfl
  refine ⟨(ho.block D0 hlt hne).trans hK, ?_, ?_⟩
  · exact (hr.only ho2 (fun e => hne e.symm)).at_ 0 rfl
  · have hb2 : Below w.heap.size W Wf := ho.below (fun k e => by have e2 : k = rbk := e; omega) hb.size
    exact (hb.trans hb2).trans (ho2.below (fun k e => by have e2 : k = D0 := e; omega) (Nat.le_trans hb.size ho.size))
/-- A result that stands in a cell. -/
theorem bool_result {fn : Func} {p : Tmp} (h : fn.results = #[.cell p 4]) (tmps : Array Value) (w : World) (a : Addr) (v : Value) (hp : tmps.getD p undef = .pointer (some a)) (hc : w.cell? a = some v) : (results fn tmps).run Try.prog w = .ok v w := by
  have hp' : tmps[p]?.getD undef = .pointer (some a) := by simpa using hp
  simp [results, h, hp', asAddr, loadVar, Sem.run_bind, Result.andThen, hc]
theorem field_reads (x1 x2 x3 : Int) (u : World) : (Instr.field 50 (.agg #[.int .i64 x1, .int .i64 x2, .int .i64 x3]) 0).run Try.prog u = .ok (.int .i64 x1) u := by kernel_rfl


set_option maxRecDepth 100000 in
set_option maxHeartbeats 4000000 in
theorem lazy_any (w : World) (y : Lay) (R : Option Addr) (len cap : Nat) (n : Int) (hR : RowsB w R len) (hlen : len ≤ maxLen) (hep : y.ep < 18446744073709551616) :
    Calls Try.prog 7 #[layV y, .slice R len cap, .int .i64 n] w (RetV (.bool true) w) := by
  have HEP := Lib.hid hep
  have HOK := Lib.hid y.ok
  have HML := Lib.hid hlen
  have hz : layV y = .agg #[.int .i64 y.s, .int .i64 y.f, .int .i64 y.c, .int .i64 y.b, .int .u64 (y.ep : Int)] := rfl
  obtain ⟨WA, hWA⟩ : ∃ WA, WA = ((w.alloc (.cells #[.int .i64 y.s, .int .i64 y.f, .int .i64 y.c, .int .i64 y.b, .int .u64 (y.ep : Int)] 24)).alloc (.cells #[.int .i64 n] 3)).alloc (.cells #[.bool false] 4) := ⟨_, rfl⟩
  have hbA : Below w.heap.size w WA := by rw [hWA]; exact (((Below.refl _ w).alloc (Nat.le_refl _) _).alloc (by simp) _).alloc (by simp; omega) _
  have hbyA : Blk WA w.heap.size 24 #[.int .i64 y.s, .int .i64 y.f, .int .i64 y.c, .int .i64 y.b, .int .u64 (y.ep : Int)] := by rw [hWA]; exact ((Blk.new w _ _).alloc _).alloc _
  have hbnA : Blk WA (w.heap.size + 1) 3 #[.int .i64 n] := by
    rw [hWA]
    have h := (Blk.new (w.alloc (.cells #[.int .i64 y.s, .int .i64 y.f, .int .i64 y.c, .int .i64 y.b, .int .u64 (y.ep : Int)] 24)) 3 #[.int .i64 n]).alloc (.cells #[.bool false] 4)
    rw [World.size_alloc] at h
    exact h
  have hbrA : Blk WA (w.heap.size + 1 + 1) 4 #[.bool false] := by
    rw [hWA]
    have h := Blk.new ((w.alloc (.cells #[.int .i64 y.s, .int .i64 y.f, .int .i64 y.c, .int .i64 y.b, .int .u64 (y.ep : Int)] 24)).alloc (.cells #[.int .i64 n] 3)) 4 #[.bool false]
    rw [World.size_alloc, World.size_alloc] at h
    exact h
  obtain ⟨rs, hl, hrows, hbig⟩ := (hR.below hbA).lists
  have HBA := Lib.hid hbA
  have HYA := Lib.hid hbyA
  have HNA := Lib.hid hbnA
  have HRA := Lib.hid hbrA
  have HWA := Lib.hid hWA
  have HRO := Lib.hid hrows
  have HLEN := Lib.hid hl
  have HBIG := Lib.hid hbig
  rw [hz]
  clear hz hR hlen hep hrows hl hbig hWA hbA hbyA hbnA hbrA
  have hTL := took_len (y.count * (y.size - 17)) rs
  have hTA := took_all (y.count * (y.size - 17)) rs
  obtain ⟨T, hT⟩ : ∃ T, T = (took (y.count * (y.size - 17)) rs).2 := ⟨_, rfl⟩
  rw [← hT] at hTL hTA
  have HT := Lib.hid hT
  have HTA := Lib.hid hTA
  have HSL : Hid ((streamB T).length ≤ y.count * (y.size - 17)) := by show _ ≤ _; rw [← hTL.1]; exact hTL.2
  clear hT hTL hTA
  have hcount := HOK.out.2.2.2.2.1
  have hfld := field_reads
  have hfnn := func_not_nil
  refine (callsIn_wide (n := 9)).1 ?_
  refine callsIn_of_wp_marks Try.func7 rfl trivial ?_ rfl
  simp only [Try.ntmps7, List.size_toArray, List.length_cons, List.length_nil, Nat.reduceAdd, Nat.reduceSub, Array.replicate_succ, Array.replicate_zero, List.push_toArray, List.append_toArray, List.nil_append, List.cons_append]
  gi_wp2_with (first
    | (refine ⟨trivial, ?_⟩; gi_at_call 23; rw [← HWA.out]; refine (callsIn_wide.2 (full_any WA y R len cap rs HRO.out HLEN.out HML.out HBIG.out)).mono ?_; rintro e w1 ⟨b, A, c, A2, c2, D, M, rfl, hfd, hrl, hends, hb1, wk, hwk, hbk, hkr⟩; rw [← HT.out] at hfd hrl hends ⊢; have HFD := Lib.hid hfd; have HRL := Lib.hid hrl; have HEN := Lib.hid hends; have HB1 := Lib.hid hb1; rw [← HT.out] at hkr; have HKR := Lib.hid hkr; have HBK := Lib.hid hbk; have HWK := Lib.hid hwk; clear hkr hbk hwk; obtain ⟨WB, hWB⟩ : ∃ WB, WB = w1.alloc (.cells #[.slice A T.length c] 25) := ⟨_, rfl⟩; have HWB := Lib.hid hWB; have hbB : Below WA.heap.size WA WB := (by rw [hWB]; exact hb1.alloc hb1.size _); have HYB := Lib.hid (HYA.out.below hbB HYA.out.lt); have HNB := Lib.hid (HNA.out.below hbB HNA.out.lt); have HRB := Lib.hid (HRA.out.below hbB HRA.out.lt); have HTB : Hid (Blk WB w1.heap.size 25 #[.slice A T.length c]) := (by rw [hWB]; exact Blk.new w1 _ _); have hb1B : Below w1.heap.size w1 WB := (by rw [hWB]; exact (Below.refl _ w1).alloc (Nat.le_refl _) _); have HFDB := Lib.hid (hfd.below hb1B); have HRLB := Lib.hid (hrl.below hb1B); have HENB := Lib.hid (own_below hends hb1B); have HBB : Hid (Below w.heap.size w WB) := HBA.out.trans (hbB.mono HBA.out.size); have k0 : (w1.alloc (.cells #[.slice A T.length c] 25)).cell? ⟨w.heap.size, 0, none⟩ = some (.int .i64 y.s) := (by rw [← hWB]; exact HYB.out.at_ 0 rfl); have k1 : (w1.alloc (.cells #[.slice A T.length c] 25)).cell? ⟨w.heap.size, 1, none⟩ = some (.int .i64 y.f) := (by rw [← hWB]; exact HYB.out.at_ 1 rfl); have k2 : (w1.alloc (.cells #[.slice A T.length c] 25)).cell? ⟨w.heap.size, 2, none⟩ = some (.int .i64 y.c) := (by rw [← hWB]; exact HYB.out.at_ 2 rfl); have k3 : (w1.alloc (.cells #[.slice A T.length c] 25)).cell? ⟨w.heap.size, 3, none⟩ = some (.int .i64 y.b) := (by rw [← hWB]; exact HYB.out.at_ 3 rfl); have k4 : (w1.alloc (.cells #[.slice A T.length c] 25)).cell? ⟨w.heap.size, 4, none⟩ = some (.int .u64 (y.ep : Int)) := (by rw [← hWB]; exact HYB.out.at_ 4 rfl); clear hfd hrl hends hb1 hbB hb1B hWB)
    | (refine ⟨trivial, ?_⟩; gi_at_call 11; rw [← HWB.out]; refine (callsIn_wide.2 (bent_any y WB)).mono ?_; rintro e w2 ⟨rfl, hb2⟩; have HFD2 := Lib.hid (HFDB.out.below hb2); have HRL2 := Lib.hid (HRLB.out.below hb2); have HEN2 := Lib.hid (own_below HENB.out hb2); have HY2 := Lib.hid (HYB.out.below hb2 HYB.out.lt); have HN2 := Lib.hid (HNB.out.below hb2 HNB.out.lt); have HR2 := Lib.hid (HRB.out.below hb2 HRB.out.lt); have HT2 := Lib.hid (HTB.out.below hb2 HTB.out.lt); have HB2 : Hid (Below w.heap.size w w2) := HBB.out.trans (hb2.mono HBB.out.size); have HBW := Lib.hid hb2; obtain ⟨WC, hWC⟩ : ∃ WC, WC = (w2.alloc (.cells #[.int .i64 (wrap64 D.rd), .int .i64 (wrap64 D.wr), .int .i64 (wrap64 D.fl)] 50)).alloc (.cells #[.int .i64 0] 3) := ⟨_, rfl⟩; have HWC := Lib.hid hWC; have hb2C : Below w2.heap.size w2 WC := (by rw [hWC]; exact ((Below.refl _ w2).alloc (Nat.le_refl _) _).alloc (by simp) _); have HYC := Lib.hid (HY2.out.below hb2C HY2.out.lt); have q4 : ((w2.alloc (.cells #[.int .i64 (wrap64 D.rd), .int .i64 (wrap64 D.wr), .int .i64 (wrap64 D.fl)] 50)).alloc (.cells #[.int .i64 0] 3)).cell? ⟨w.heap.size, 4, none⟩ = some (.int .u64 (y.ep : Int)) := (by rw [← hWC]; exact HYC.out.at_ 4 rfl); have HB2C := Lib.hid hb2C; clear hb2 hb2C k0 k1 k2 k3 k4 hWC)
    | (refine ⟨trivial, ?_⟩; gi_at_call 22; refine (callsIn_wide.2 (stats_any w2 _ b D M HFD2.out.dk)).mono ?_; rintro e w3 ⟨rfl, rfl⟩)
    | (refine ⟨trivial, ?_⟩; gi_at_call 33; rw [← HWC.out]; refine (callsIn_wide.2 (records_ok WC _ b D M y.first y.count y.ep (HFD2.out.dk.below HB2C.out) HOK.out.2.2.2.1 HOK.out.2.2.2.2.1 (by rw [HFD2.out.n]; exact HOK.out.2.2.2.2.2.1))).mono ?_; rintro e w4 ⟨pb, hpb, rfl, hra, hb4⟩; have HRA4 := Lib.hid hra; have HB4 := Lib.hid hb4; clear hra hb4))
  -- the loop's start
  have hBd : ∀ k, M.foot b k → WA.heap.size ≤ k ∧ k < w1.heap.size := fun k hk => HFD.out.dk.foot_lt hk
  have hs1 : w.heap.size + 3 ≤ w1.heap.size := by
    have h1 := HB1.out.size
    have h2 : WA.heap.size = w.heap.size + 3 := by rw [HWA.out]; simp
    omega
  have hsWB : WB.heap.size = w1.heap.size + 1 := by rw [HWB.out]; simp
  have hs2 : WB.heap.size ≤ w2.heap.size := by
    have h := HT2.out.lt
    omega
  have hsC : WC.heap.size = w2.heap.size + 2 := by rw [HWC.out]; simp
  have hs4 : WC.heap.size ≤ w4.heap.size := HB4.out.size
  have hbs : Blk WC (w2.heap.size + 1) 3 #[.int .i64 0] := by
    rw [HWC.out]
    have h := Blk.new (w2.alloc (.cells #[.int .i64 (wrap64 D.rd), .int .i64 (wrap64 D.wr), .int .i64 (wrap64 D.fl)] 50)) 3 #[.int .i64 0]
    rw [World.size_alloc] at h
    exact h
  have HS4 : Hid (Blk w4 (w2.heap.size + 1) 3 #[.int .i64 ((([] : List RecV).length : Nat) : Int)]) := hbs.below HB4.out hbs.lt
  have hb24 : Below w2.heap.size w2 w4 := HB2C.out.trans (HB4.out.mono (by omega))
  have HN4 := Lib.hid (HN2.out.below hb24 HN2.out.lt)
  have HR4 := Lib.hid (HR2.out.below hb24 HR2.out.lt)
  have HT4 := Lib.hid (HT2.out.below hb24 HT2.out.lt)
  have HEN4 := Lib.hid (own_below HEN2.out hb24)
  have hnf : ∀ k, M.foot b k → k < w1.heap.size := fun k hk => (hBd k hk).2
  have HFT : Hid (∀ k, recFoot M b pb k → k < w4.heap.size) := HRA4.out.lt
  have HB14 : Hid (Below w1.heap.size w1 w4) := ((show Below w1.heap.size w1 WB from by rw [HWB.out]; exact (Below.refl _ w1).alloc (Nat.le_refl _) _).trans (HBW.out.mono (by omega))).trans (hb24.mono (by omega))
  have HKR4 : Hid (KeptRow wk WA.heap.size w4 (.slice A T.length c) T) := by
    obtain ⟨cs, h1, h2, h3⟩ := HKR.out
    exact ⟨cs, own_below h1 HB14.out, h2, h3⟩
  have hWA1 : WA.heap.size ≤ w1.heap.size := HB1.out.size
  have HBK4 : Hid (Below WA.heap.size wk w4) := HBK.out.trans (HB14.out.mono hWA1)
  have HFB : Hid (∀ k, (recFoot M b pb k ∨ k = (w2.heap.size + 1)) → WA.heap.size ≤ k) := by
    rintro k ((e | e) | e)
    · exact (hBd k e).1
    · omega
    · omega
  have hsbf : ¬ recFoot M b pb (w2.heap.size + 1) := by
    rintro (e | e)
    · exact HRA4.out.dk.not_foot HS4.out (by decide) (by decide) (by decide) e
    · exact HS4.out.ne_ HRA4.out.pl (by decide) e
  have HI0 : Hid (lazyI w4 (recFoot M b pb) (w2.heap.size + 1) n [] (fun k => k < w4.heap.size ∧ ¬ recFoot M b pb k) w4) := by
    refine ⟨⟨fun _ => Iff.rfl, Only.refl _ _, HS4.out, HS4.out.lt, hsbf⟩, ?_⟩
    rcases Int.lt_or_le n 0 with h | h
    · exact .inl h
    · exact .inr h
  have HHO : Hid (Holds (secOf D y.first) y.count (D.size - 17) y.ep (streamB T)) := by
    show Holds _ _ _ _ _
    rw [HFD.out.size]
    exact HFD.out.holds HEP.out HSL.out
  have hal : D.dead = false := HFD.out.good.dead
  have hsize := HFD.out.size
  have hdn := HFD.out.n
  refine wpIn_rangeFunc_R (n := 9) rfl (by omega) (gf := 55) (lb := #[.pointer (some ⟨pb, 0, none⟩)]) rfl trivial (enters_of Try.func55 (by kernel_rfl) rfl)
    (records2_stops 8 (by omega) w4 WA.heap.size b pb y.first y.count (D.size - 17) y.ep D M HRA4.out hal (by rw [hdn]; exact HOK.out.2.2.2.2.2.1) (by have := HOK.out.1; omega) hcount) (Below.refl _ _) rfl HFT.out (recS_abides _ _ _ _ _ _ _ _ _) (recSp_abides _ _ _ _ _ _ _ _ _)
    (lazyI w4 (recFoot M b pb) (w2.heap.size + 1) n) (lazyX w4 (recFoot M b pb) (w2.heap.size + 1) n) (lazyI_abides _ _ _ _) (fun _ => lazyX_abides _ _ _ _ _) _ HI0.out (fun k hk => hk) ?a1 ?assign ?body ?done ?stop
  case assign =>
    intro l i x W K hK
    simp only [RecV.val]
    gi_wp2
    exact hK
  case body =>
    rintro l pre x C W ⟨hI, hnn⟩ hszW hown hxC hClt hpl ⟨at_, Rx, hrx, hitx⟩
    obtain ⟨hle, hmap, _, _⟩ := HHO.out.one HTA.out hrx
    rw [List.length_append, List.length_singleton] at hle hmap
    have hTi : T[pre.length]? = some x.bs := by
      have h1 : ((pre ++ [x]).map RecV.bs)[pre.length]? = some x.bs := by
        rw [List.map_append, List.getElem?_append_right (by simp), List.length_map, Nat.sub_self]; rfl
      rw [hmap, List.getElem?_take, if_pos (by omega)] at h1
      exact h1
    have hne : ∀ {g : Nat} {t : TypeId} {cs : Array Value}, Blk w4 g t cs → t ≠ 110 → t ≠ 5 → t ≠ 120 → t ≠ 95 → t ≠ 3 → ¬ (recFoot M b pb g ∨ g = (w2.heap.size + 1)) := by
      rintro g t cs hb h1 h2 h3 h4 h5 ((e | e) | e)
      · exact HRA4.out.dk.not_foot hb h1 h2 h3 e
      · exact hb.ne_ HRA4.out.pl h4 e
      · exact hb.ne_ HS4.out h5 e
    have hn4 : ¬ (recFoot M b pb (w.heap.size + 1) ∨ w.heap.size + 1 = (w2.heap.size + 1)) := by
      rintro ((e | e) | e)
      · exact HRA4.out.dk.not_foot HN4.out (by decide) (by decide) (by decide) e
      · exact HN4.out.ne_ HRA4.out.pl (by decide) e
      · omega
    have HI := Lib.hid hI
    have hlt : pre.length < T.length := by omega
    obtain ⟨cs, hrow, hone, hel⟩ := HKR4.out
    have hrowW := ownsRow_only hrow hI.only (fun g hg => by
      obtain ⟨cc, hb⟩ := own_blk hrow hg
      exact hne hb (by decide) (by decide) (by decide) (by decide) (by decide))
    obtain ⟨ad, u, rfl, _, hu, hcu⟩ := Rd.at_ (Rd.of_own hrowW) hlt
    obtain ⟨A', c', hu2, hcl⟩ := hel _ _ hTi
    rw [hu] at hu2
    injection hu2 with hu2
    subst hu2
    have HRT : Hid (RdB W A' x.bs.length x.bs) := hcl W (HBK4.out.trans (hI.only.below HFB.out (by omega)))
    have HRX : Hid (RdB W x.A x.bs.length x.bs) := Rd.of_own hown
    have hxl : x.bs.length ≤ 1024 := (HTA.out x.bs (List.mem_of_getElem? hTi)).2
    have g0 : W.cell? ⟨w2.heap.size + 1, 0, none⟩ = some (.int .i64 (pre.length : Int)) := hI.seen.at_ 0 rfl
    have g1 := hI.seen.frozen 0
    have g2 : W.cell? ⟨w1.heap.size, 0, none⟩ = some (.slice (some ad) T.length c) := (HT4.out.only hI.only (hne HT4.out (by decide) (by decide) (by decide) (by decide) (by decide))).at_ 0 rfl
    have g3 : W.cell? ⟨w.heap.size + 1, 0, none⟩ = some (.int .i64 n) := (HN4.out.only hI.only hn4).at_ 0 rfl
    clear hI hrow hrowW hel hcl hown hxC hClt hrx hitx hmap hne hone
    by_cases hin : (pre.length : Int) = n
    · subst hin
      gi_wp2_with (refine ⟨trivial, ?_⟩; gi_at_call 27; refine (CallsIn.inRound l (callsIn_wide.2 (eq_any x.A A' x.bs.length x.c x.bs.length c' x.bs x.bs W HRX.out HRT.out (by unfold maxLen; omega) (by unfold maxLen; omega)))).mono ?_; rw [decide_eq_true rfl]; rintro e w5 ⟨rfl, nq, rfl⟩)
      have hnx := HI.out.next (x := x) (W2 := W.drewN nq) ((Only.refl _ W).drewN nq)
      exact ⟨C, ⟨rfl, hnx.1, by rw [List.length_append, List.length_singleton]; omega, by omega⟩, hnx.2⟩
    · gi_wp2_with (refine ⟨trivial, ?_⟩; gi_at_call 27; refine (CallsIn.inRound l (callsIn_wide.2 (eq_any x.A A' x.bs.length x.c x.bs.length c' x.bs x.bs W HRX.out HRT.out (by unfold maxLen; omega) (by unfold maxLen; omega)))).mono ?_; rw [decide_eq_true rfl]; rintro e w5 ⟨rfl, nq, rfl⟩)
      have hnx := HI.out.next (x := x) (W2 := W.drewN nq) ((Only.refl _ W).drewN nq)
      exact ⟨C, ⟨hnx.1, by rw [List.length_append, List.length_singleton]; omega⟩, hnx.2⟩
  case done =>
    rintro xs C W ⟨at_, Rr, R', hrun, hend, hrat⟩ ⟨hI, hnn⟩ hCf hK
    obtain ⟨hle, hmap, rfl, rfl⟩ := HHO.out.one HTA.out hrun
    have hxl : xs.length = T.length := by
      rcases Nat.lt_or_ge xs.length T.length with h | h
      · have h2 := HHO.out.recF_ HTA.out (List.getElem?_eq_getElem h)
        rw [hend] at h2
        injection h2 with h2 _
        cases h2
      · omega
    obtain ⟨R2, he2, hreads⟩ := HHO.out.ends
    rw [hxl, he2] at hend
    injection hend with _ hend
    subst hend
    obtain ⟨E, hE⟩ : ∃ E, E = R2.reads := ⟨_, rfl⟩
    obtain ⟨q, hq⟩ : ∃ q, q = (streamB T).length / (D.size - 17) := ⟨_, rfl⟩
    obtain ⟨sl, hsl⟩ : ∃ sl, sl = (streamB T).length := ⟨_, rfl⟩
    rw [← hE, ← hq] at hreads
    rw [hsize, ← hsl] at hq
    rw [← hE] at hrat
    have hslm : sl ≤ 64448 := by
      have h1 : y.count * (y.size - 17) ≤ 64 * 1007 := Nat.mul_le_mul hcount (by have := HOK.out.2.1; omega)
      have h2 := HSL.out
      omega
    have hEm : E ≤ 64 := by omega
    have hWAs : WA.heap.size = w.heap.size + 3 := by rw [HWA.out]; simp
    have hbW : Below w.heap.size w W := (HB2.out.trans (hb24.mono HB2.out.size)).trans (hI.only.below (fun k hk => by have := HFB.out k hk; omega) (by omega))
    obtain ⟨x1, hx1⟩ : ∃ x1, x1 = wrap64 ((D.rd + E : Nat) : Int) := ⟨_, rfl⟩
    obtain ⟨x2, hx2⟩ : ∃ x2, x2 = wrap64 (D.wr : Int) := ⟨_, rfl⟩
    obtain ⟨x3, hx3⟩ : ∃ x3, x3 = wrap64 (D.fl : Int) := ⟨_, rfl⟩
    have hdiff : wrap64 (x1 - wrap64 (D.rd : Int)) = (E : Int) := by rw [hx1]; exact wrap_diff _ _ (by omega)
    have HST := Lib.hid (stats_x W _ b _ M x1 x2 x3 hrat.dk hx1.symm hx2.symm hx3.symm)
    have hne : ∀ {g : Nat} {t : TypeId} {cs : Array Value}, Blk w4 g t cs → t ≠ 110 → t ≠ 5 → t ≠ 120 → t ≠ 95 → g ≠ w2.heap.size + 1 → ¬ (recFoot M b pb g ∨ g = w2.heap.size + 1) := by
      rintro g t cs hb h1 h2 h3 h4 h5 ((e | e) | e)
      · exact HRA4.out.dk.not_foot hb h1 h2 h3 e
      · exact hb.ne_ HRA4.out.pl h4 e
      · exact h5 e
    have hbn := HN4.out.only hI.only (hne HN4.out (by decide) (by decide) (by decide) (by decide) (by omega))
    have hbr := HR4.out.only hI.only (hne HR4.out (by decide) (by decide) (by decide) (by decide) (by omega))
    have hbt := HT4.out.only hI.only (hne HT4.out (by decide) (by decide) (by decide) (by decide) (by omega))
    have hrowW := ownsRow_only HEN4.out hI.only (fun g hg => by
      obtain ⟨cc, hb⟩ := own_blk HEN4.out hg
      have h6 := (HEN.out.lt g hg).2
      exact hne hb (by decide) (by decide) (by decide) (by decide) (by omega))
    obtain ⟨a2, u2, rfl, _, hu2, hc2⟩ := Rd.at_ ((Rd.of_own hrowW).alloc (.cells #[.int .i64 x1, .int .i64 x2, .int .i64 x3] 50)) (show T.length < T.length + 1 by omega)
    rw [endsL_at (Nat.le_refl _)] at hu2
    injection hu2 with hu2
    subst hu2
    have g0 : (W.alloc (.cells #[.int .i64 x1, .int .i64 x2, .int .i64 x3] 50)).cell? ⟨w2.heap.size + 1, 0, none⟩ = some (.int .i64 (T.length : Int)) := (hI.seen.alloc _).at_ 0 (by show some (Value.int .i64 (xs.length : Int)) = _; rw [hxl])
    have g1 : (W.alloc (.cells #[.int .i64 x1, .int .i64 x2, .int .i64 x3] 50)).cell? ⟨w1.heap.size, 0, none⟩ = some (.slice A T.length c) := (hbt.alloc _).at_ 0 rfl
    have g2 : (W.alloc (.cells #[.int .i64 x1, .int .i64 x2, .int .i64 x3] 50)).cell? ⟨w.heap.size + 1, 0, none⟩ = some (.int .i64 n) := (hbn.alloc _).at_ 0 rfl
    have g3 : (W.alloc (.cells #[.int .i64 x1, .int .i64 x2, .int .i64 x3] 50)).cell? ⟨w.heap.size + 1 + 1, 0, none⟩ = some (.bool false) := (hbr.alloc _).at_ 0 rfl
    have g4 := (hbr.alloc (.cells #[.int .i64 x1, .int .i64 x2, .int .i64 x3] 50)).frozen 0
    have HBW0 := Lib.hid hbW
    have HBR := Lib.hid hbr
    have HK := Lib.hid hK
    have hwW4 : w.heap.size ≤ w4.heap.size := by omega
    rw [List.take_length, ← hsl] at hc2
    have hz1 : wrap64 ((y.size : Int) - 17) = (y.size : Int) - 17 := wrap64_in (by have := HOK.out.1; omega) (by have := HOK.out.2.1; omega)
    have hz2 : (sl : Int).tdiv ((y.size : Int) - 17) = (q : Int) := by
      have e : (y.size : Int) - 17 = ((y.size - 17 : Nat) : Int) := by have := HOK.out.1; omega
      rw [e, tdiv_nat, hq]
    have hz3 : ¬ (y.size : Int) - 17 = 0 := by have := HOK.out.1; omega
    have hqm : q ≤ 64448 := by rw [hq]; exact Nat.le_trans (Nat.div_le_self _ _) hslm
    have HRE := Lib.hid hreads
    clear hI hrat hrun he2 hbn hbr hbt hrowW hx1 hx2 hx3 hq hsl hK hbW hreads hmap hle hne
    by_cases hmost : (y.count : Int) < (q : Int) + 1
    · have hEq : E = y.count := by have := HRE.out; omega
      subst hEq
      gi_wp2_with (refine ⟨trivial, ?_⟩; gi_at_call 22; refine (callsIn_wide.2 HST.out).mono ?_; rintro e w5 ⟨rfl, rfl⟩)
      all_goals
        have hbr2 := ((HBR.out.alloc (.cells #[.int .i64 x1, .int .i64 x2, .int .i64 x3] 50)).set_ 0 (.bool true))
        have hon : Only (fun k => k = w.heap.size + 1 + 1) W (((W.alloc (.cells #[.int .i64 x1, .int .i64 x2, .int .i64 x3] 50))).setCell ⟨w.heap.size + 1 + 1, 0, none⟩ (.bool true)) := ((Only.refl (fun k => k = w.heap.size + 1 + 1) W).alloc _).setCell (p := ⟨w.heap.size + 1 + 1, 0, none⟩) (fun _ => rfl) _
        obtain ⟨o1, o2, o3⟩ := lazy_out HK.out hbr2 ⟨_, HBR.out⟩ hon HBW0.out (by omega) hwW4
        refine ⟨by simp, .inl ⟨_, _, rfl, run_takeDeferred o1, ?_⟩⟩
        exact ⟨_, bool_result rfl _ _ _ _ rfl o2, rfl, o3⟩
    · have hEq : (E : Int) = (q : Int) + 1 := by have := HRE.out; omega
      rw [hEq] at hdiff
      gi_wp2_with (refine ⟨trivial, ?_⟩; gi_at_call 22; refine (callsIn_wide.2 HST.out).mono ?_; rintro e w5 ⟨rfl, rfl⟩)
      all_goals
        have hbr2 := ((HBR.out.alloc (.cells #[.int .i64 x1, .int .i64 x2, .int .i64 x3] 50)).set_ 0 (.bool true))
        have hon : Only (fun k => k = w.heap.size + 1 + 1) W (((W.alloc (.cells #[.int .i64 x1, .int .i64 x2, .int .i64 x3] 50))).setCell ⟨w.heap.size + 1 + 1, 0, none⟩ (.bool true)) := ((Only.refl (fun k => k = w.heap.size + 1 + 1) W).alloc _).setCell (p := ⟨w.heap.size + 1 + 1, 0, none⟩) (fun _ => rfl) _
        obtain ⟨o1, o2, o3⟩ := lazy_out HK.out hbr2 ⟨_, HBR.out⟩ hon HBW0.out (by omega) hwW4
        refine ⟨by simp, .inl ⟨_, _, rfl, run_takeDeferred o1, ?_⟩⟩
        exact ⟨_, bool_result rfl _ _ _ _ rfl o2, rfl, o3⟩
  case stop =>
    rintro c2 pre C W ⟨at_, Rr, hrun, hrat⟩ ⟨rfl, hI, hpn, hn0⟩ hCf hK
    obtain ⟨hle, hmap, rfl, rfl⟩ := HHO.out.one HTA.out hrun
    obtain ⟨i, rfl⟩ : ∃ i : Nat, n = i := ⟨n.toNat, by omega⟩
    obtain ⟨i1, hi1⟩ : ∃ i1 : Nat, i1 = i + 1 := ⟨_, rfl⟩
    have hpi : pre.length = i1 := by omega
    rw [hpi] at hle hrat
    obtain ⟨sl, hsl⟩ : ∃ sl, sl = (streamB (T.take i1)).length := ⟨_, rfl⟩
    rw [← hsl] at hrat
    have hsle : sl ≤ y.count * (y.size - 17) := by rw [hsl]; exact Nat.le_trans (streamB_take_le _ _) HSL.out
    have hpos : 1 ≤ sl := by
      have e1 : T.take (i + 1) = T.take i ++ [T[i]] := by rw [List.take_add_one, List.getElem?_eq_getElem (by omega)]; rfl
      rw [hsl, hi1, e1, streamB_snoc, List.length_append, List.length_append, leB_length]
      omega
    obtain ⟨E, hE⟩ : ∃ E, E = jn (D.size - 17) sl := ⟨_, rfl⟩
    obtain ⟨q, hq⟩ : ∃ q, q = (sl - 1) / (y.size - 17) := ⟨_, rfl⟩
    have hEq : (E : Int) = (q : Int) + 1 := by
      rw [hE, hq, hsize]
      unfold jn
      rw [if_neg (by omega)]
      rfl
    have hrat : RecAt W WA.heap.size b pb y.first y.count (D.size - 17) y.ep { D with rd := D.rd + E } M := by rw [hE]; exact hrat
    have hslm : sl ≤ 64448 := by
      have h1 : y.count * (y.size - 17) ≤ 64 * 1007 := Nat.mul_le_mul hcount (by have := HOK.out.2.1; omega)
      omega
    have hEm : E ≤ 64 := by
      rw [hE, hsize]
      exact (jn_le (by have := HOK.out.1; omega)).2 (Nat.le_trans hsle (Nat.mul_le_mul_right _ hcount))
    have hWAs : WA.heap.size = w.heap.size + 3 := by rw [HWA.out]; simp
    have hbW : Below w.heap.size w W := (HB2.out.trans (hb24.mono HB2.out.size)).trans (hI.only.below (fun k hk => by have := HFB.out k hk; omega) (by omega))
    obtain ⟨x1, hx1⟩ : ∃ x1, x1 = wrap64 ((D.rd + E : Nat) : Int) := ⟨_, rfl⟩
    obtain ⟨x2, hx2⟩ : ∃ x2, x2 = wrap64 (D.wr : Int) := ⟨_, rfl⟩
    obtain ⟨x3, hx3⟩ : ∃ x3, x3 = wrap64 (D.fl : Int) := ⟨_, rfl⟩
    have hdiff : wrap64 (x1 - wrap64 (D.rd : Int)) = (E : Int) := by rw [hx1]; exact wrap_diff _ _ (by omega)
    have HST := Lib.hid (stats_x W _ b _ M x1 x2 x3 hrat.dk hx1.symm hx2.symm hx3.symm)
    have hne : ∀ {g : Nat} {t : TypeId} {cs : Array Value}, Blk w4 g t cs → t ≠ 110 → t ≠ 5 → t ≠ 120 → t ≠ 95 → g ≠ w2.heap.size + 1 → ¬ (recFoot M b pb g ∨ g = w2.heap.size + 1) := by
      rintro g t cs hb h1 h2 h3 h4 h5 ((e | e) | e)
      · exact HRA4.out.dk.not_foot hb h1 h2 h3 e
      · exact hb.ne_ HRA4.out.pl h4 e
      · exact h5 e
    have hbn := HN4.out.only hI.only (hne HN4.out (by decide) (by decide) (by decide) (by decide) (by omega))
    have hbr := HR4.out.only hI.only (hne HR4.out (by decide) (by decide) (by decide) (by decide) (by omega))
    have hbt := HT4.out.only hI.only (hne HT4.out (by decide) (by decide) (by decide) (by decide) (by omega))
    have hrowW := ownsRow_only HEN4.out hI.only (fun g hg => by
      obtain ⟨cc, hb⟩ := own_blk HEN4.out hg
      have h6 := (HEN.out.lt g hg).2
      exact hne hb (by decide) (by decide) (by decide) (by decide) (by omega))
    obtain ⟨a2, u2, rfl, _, hu2, hc2⟩ := Rd.at_ ((Rd.of_own hrowW).alloc (.cells #[.int .i64 x1, .int .i64 x2, .int .i64 x3] 50)) (show i1 < T.length + 1 by omega)
    rw [endsL_at (show i1 ≤ T.length by omega)] at hu2
    injection hu2 with hu2
    subst hu2
    have g0 : (W.alloc (.cells #[.int .i64 x1, .int .i64 x2, .int .i64 x3] 50)).cell? ⟨w2.heap.size + 1, 0, none⟩ = some (.int .i64 (i1 : Int)) := (hI.seen.alloc _).at_ 0 (by show some (Value.int .i64 (pre.length : Int)) = _; rw [hpi])
    have g1 : (W.alloc (.cells #[.int .i64 x1, .int .i64 x2, .int .i64 x3] 50)).cell? ⟨w1.heap.size, 0, none⟩ = some (.slice A T.length c) := (hbt.alloc _).at_ 0 rfl
    have g2 : (W.alloc (.cells #[.int .i64 x1, .int .i64 x2, .int .i64 x3] 50)).cell? ⟨w.heap.size + 1, 0, none⟩ = some (.int .i64 (i : Int)) := (hbn.alloc _).at_ 0 rfl
    have g3 : (W.alloc (.cells #[.int .i64 x1, .int .i64 x2, .int .i64 x3] 50)).cell? ⟨w.heap.size + 1 + 1, 0, none⟩ = some (.bool false) := (hbr.alloc _).at_ 0 rfl
    have g4 := (hbr.alloc (.cells #[.int .i64 x1, .int .i64 x2, .int .i64 x3] 50)).frozen 0
    have HBW0 := Lib.hid hbW
    have HBR := Lib.hid hbr
    have HK := Lib.hid hK
    have hwW4 : w.heap.size ≤ w4.heap.size := by omega
    rw [← hsl] at hc2
    have hz1 : wrap64 ((y.size : Int) - 17) = (y.size : Int) - 17 := wrap64_in (by have := HOK.out.1; omega) (by have := HOK.out.2.1; omega)
    have hz0 : wrap64 ((sl : Int) - 1) = (sl : Int) - 1 := wrap64_in (by omega) (by omega)
    have hz2 : ((sl : Int) - 1).tdiv ((y.size : Int) - 17) = (q : Int) := by
      have e : (y.size : Int) - 17 = ((y.size - 17 : Nat) : Int) := by have := HOK.out.1; omega
      have e2 : (sl : Int) - 1 = ((sl - 1 : Nat) : Int) := by omega
      rw [e, e2, tdiv_nat, hq]
    have hz3 : ¬ (y.size : Int) - 17 = 0 := by have := HOK.out.1; omega
    have hqm : q ≤ 64448 := by rw [hq]; exact Nat.le_trans (Nat.div_le_self _ _) (by omega)
    rw [hEq] at hdiff
    have hiT : i < T.length := Nat.lt_of_lt_of_le (by rw [hi1]; exact Nat.lt_succ_self i) hle
    have hwi : wrap64 ((i : Int) + 1) = (i1 : Int) := idx_wrap hi1 hle (Nat.le_trans (streamB_many T) (Nat.le_trans HSL.out (Nat.mul_le_mul hcount (show y.size - 17 ≤ 1007 by have := HOK.out.2.1; omega))))
    have hi1T : i1 < T.length + 1 := Nat.lt_succ_of_le hle
    clear hI hrat hrun hbn hbr hbt hrowW hx1 hx2 hx3 hE hq hsl hK hbW hmap hne hsle hEq hEm hle hpn hn0 hi1 hpos hslm hpi
    gi_wp2_with (refine ⟨trivial, ?_⟩; gi_at_call 22; refine (callsIn_wide.2 HST.out).mono ?_; rintro e w5 ⟨rfl, rfl⟩)
    all_goals
      have hbr2 := ((HBR.out.alloc (.cells #[.int .i64 x1, .int .i64 x2, .int .i64 x3] 50)).set_ 0 (.bool true))
      have hon : Only (fun k => k = w.heap.size + 1 + 1) W (((W.alloc (.cells #[.int .i64 x1, .int .i64 x2, .int .i64 x3] 50))).setCell ⟨w.heap.size + 1 + 1, 0, none⟩ (.bool true)) := ((Only.refl (fun k => k = w.heap.size + 1 + 1) W).alloc _).setCell (p := ⟨w.heap.size + 1 + 1, 0, none⟩) (fun _ => rfl) _
      obtain ⟨o1, o2, o3⟩ := lazy_out HK.out hbr2 ⟨_, HBR.out⟩ hon HBW0.out (by omega) hwW4
      refine ⟨by simp, .inl ⟨_, _, rfl, run_takeDeferred o1, ?_⟩⟩
      exact ⟨_, bool_result rfl _ _ _ _ rfl o2, rfl, o3⟩
end Go.Proofs.Ytenommboacjopaa
