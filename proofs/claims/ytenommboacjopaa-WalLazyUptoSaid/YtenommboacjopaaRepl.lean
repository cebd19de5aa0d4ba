/- wal.Replay by its contract, where the log lies. -/
import Derived.Test.YtenommboacjopaaIter
import Derived.Test.YtenommboacjopaaWal1
import Derived.Maps.AppendAt
import Derived.Maps.OwnIn
import Derived.Shelf.Abstract
namespace Go.Proofs.Ytenommboacjopaa
open Go.RowKit Go.Shelf
attribute [local go_sem] Oper.semAt_some

/-- Records as they are handed back: a row of one's own, each record a row of one's own, no two of them in one block. -/
structure RecsAt (W : World) (B : Nat) (v : Value) (xs : List RecV) : Prop where
  row : W.ownsRow B 36 1 v xs.length (xs.map RecV.val)
  recs : ∀ x ∈ xs, W.ownsRow B 5 1 x.val x.bs.length (x.bs.map bv)
  apart : xs.Pairwise fun x y => ∀ g, x.val.ownBlock = some g → y.val.ownBlock ≠ some g
def recC (v : Value) (xs : List RecV) (k : Nat) : Prop := v.ownBlock = some k ∨ ∃ x ∈ xs, x.val.ownBlock = some k
theorem RecsAt.only {W W' : World} {B : Nat} {v : Value} {xs : List RecV} {F : Nat → Prop} (h : RecsAt W B v xs) (ho : Only F W W') (hF : ∀ k, recC v xs k → ¬ F k) : RecsAt W' B v xs :=
  ⟨ownsRow_only h.row ho (fun g hg => hF g (.inl hg)), fun x hx => ownsRow_only (h.recs x hx) ho (fun g hg => hF g (.inr ⟨x, hx, hg⟩)), h.apart⟩
theorem RecsAt.lt {W : World} {B : Nat} {v : Value} {xs : List RecV} (h : RecsAt W B v xs) : ∀ k, recC v xs k → B ≤ k ∧ k < W.heap.size := by
  rintro k (hk | ⟨x, hx, hk⟩)
  · exact h.row.lt k hk
  · exact (h.recs x hx).lt k hk
theorem RecsAt.base {W : World} {B B' : Nat} {v : Value} {xs : List RecV} (h : RecsAt W B v xs) (hB : B' ≤ B) : RecsAt W B' v xs :=
  ⟨ownsRow_base h.row hB, fun x hx => ownsRow_base (h.recs x hx) hB, h.apart⟩
theorem RecsAt.nil (W : World) (B : Nat) : RecsAt W B (.slice none 0 0) [] := ⟨World.ownsRow_nil _ _ _ _, (fun x hx => by cases hx), List.Pairwise.nil⟩

/-- records: the closure over a place and an error's cell. -/
theorem records_any (w : World) (b first count room epoch ec : Nat) :
    Calls Try.prog 48 #[placeV b first count room epoch, .pointer (some ⟨ec, 0, none⟩)] w
      (RetW (.func (.func 74) #[] #[.pointer (some ⟨w.heap.size, 0, none⟩), .pointer (some ⟨w.heap.size + 1, 0, none⟩)]) ((w.alloc (.cells #[.pointer (some ⟨b, 0, none⟩), .int .i64 (first : Int), .int .i64 (count : Int), .int .i64 (room : Int), .int .u64 (epoch : Int)] 95)).alloc (.cells #[.pointer (some ⟨ec, 0, none⟩)] 102))) := by
  unfold placeV
  go_enter Try.func48, Try.ntmps48
  go_wp2
  go_ret
  exact ⟨rfl, rfl⟩

def RetRepl (Bd b first count room epoch : Nat) (D : Dk) (M : DkM) (w : World) (e : Ending) (w' : World) : Prop :=
  ∃ xs at_ R R' A c, runK (secOf D first) count room epoch xs.length = some (xs.map RecV.bs, at_, R) ∧ recF (secOf D first) count room epoch at_ R = (none, R') ∧ e = .returned (.tuple #[.slice A xs.length c, .int .i64 0]) ∧
    RecsAt w' w.heap.size (.slice A xs.length c) xs ∧ DiskAt w' Bd b { D with rd := D.rd + R'.reads } M ∧ Only (M.foot b) w w'

/-- What Replay's loop keeps. -/
def replI (w : World) (M : DkM) (b rbx : Nat) (pre : List RecV) (C : Nat → Prop) (W : World) : Prop :=
  ∃ A c, (∀ k, C k ↔ (k < w.heap.size ∧ ¬ M.foot b k) ∨ k = rbx ∨ recC (.slice A pre.length c) pre k) ∧ Blk W rbx 25 #[.slice A pre.length c] ∧ RecsAt W w.heap.size (.slice A pre.length c) pre ∧ Only (M.foot b) w W
theorem replI_abides (w : World) (M : DkM) (b rbx : Nat) : Abides (replI w M b rbx) := by
  rintro pre C W W' ⟨A, c, h1, h2, h3, h4⟩ ho
  refine ⟨A, c, h1, h2.only ho (fun h => h ((h1 _).2 (.inr (.inl rfl)))), h3.only ho (fun k hk h => h ((h1 _).2 (.inr (.inr hk)))), ?_⟩
  refine ⟨ho.os.trans h4.os, ho.tape.trans h4.tape, ho.output.trans h4.output, Nat.le_trans h4.size ho.size, fun k hk hf => ?_⟩
  exact (ho.block k (Nat.lt_of_lt_of_le hk h4.size) (fun h => h ((h1 k).2 (.inl ⟨hk, hf⟩)))).trans (h4.block k hk hf)

theorem infoSl2 : (Try.prog.info? 36).map (fun i => (i.zero, i.size, i.bytes)) = some (some (.slice none 0 0), 1, 24) := by kernel_rfl
/-- One record more. -/
theorem replI_next {w W W2 : World} {M : DkM} {b rbx c c2 : Nat} {A A2 : Option Addr} {pre : List RecV} {x : RecV} {C : Nat → Prop} (hrw : w.heap.size ≤ rbx) (hC : ∀ k, C k ↔ (k < w.heap.size ∧ ¬ M.foot b k) ∨ k = rbx ∨ recC (.slice A pre.length c) pre k) (hbx : Blk W rbx 25 #[.slice A pre.length c]) (hra : RecsAt W w.heap.size (.slice A pre.length c) pre) (hon : Only (M.foot b) w W)
    (hxo : W.ownsRow w.heap.size 5 1 x.val x.bs.length (x.bs.map bv)) (hxC : ∀ g, x.val.ownBlock = some g → ¬ C g) (hClt : ∀ k, C k → k < W.heap.size)
    (hown : W2.ownsRow w.heap.size 36 1 (.slice A2 (pre.length + 1) c2) (pre.length + 1) (pre.map RecV.val ++ [x.val])) (hg : (W.alloc (.cells #[x.val] 36)).grownBy W2 (Value.slice A pre.length c).ownBlock)
    (hat : (Value.slice A2 (pre.length + 1) c2).ownBlock = (Value.slice A pre.length c).ownBlock ∨ (Value.slice A2 (pre.length + 1) c2).ownBlock = some (W.heap.size + 1)) :
    ∃ C', replI w M b rbx (pre ++ [x]) C' (W2.setCell ⟨rbx, 0, none⟩ (.slice A2 (pre.length + 1) c2)) ∧ Turned C x C' W (W2.setCell ⟨rbx, 0, none⟩ (.slice A2 (pre.length + 1) c2)) := by
  have hrlt := hbx.lt
  have ho : Only (fun k => C k ∨ x.val.ownBlock = some k) W (W2.setCell ⟨rbx, 0, none⟩ (.slice A2 (pre.length + 1) c2)) :=
    (((Only.refl _ W).alloc _).grown hg (fun k hk _ => .inl ((hC k).2 (.inr (.inr (.inl hk)))))).setCell (p := ⟨rbx, 0, none⟩) (fun _ => .inl ((hC rbx).2 (.inr (.inl rfl)))) _
  have ho1 : Only (fun k => k = rbx) W2 (W2.setCell ⟨rbx, 0, none⟩ (.slice A2 (pre.length + 1) c2)) := (Only.refl (fun k => k = rbx) W2).setCell (p := ⟨rbx, 0, none⟩) (fun _ => rfl) _
  have hb2 : Blk W2 rbx 25 #[.slice A pre.length c] := (hbx.alloc _).grown hg (fun e => own_blk_ne hra.row hbx (by decide) e.symm)
  have hrecs : ∀ y : RecV, W.ownsRow w.heap.size 5 1 y.val y.bs.length (y.bs.map bv) → (W2.setCell ⟨rbx, 0, none⟩ (.slice A2 (pre.length + 1) c2)).ownsRow w.heap.size 5 1 y.val y.bs.length (y.bs.map bv) := by
    intro y hy
    have hgo : Only (fun k => (Value.slice A pre.length c).ownBlock = some k) W W2 := ((Only.refl _ W).alloc _).grown hg (fun k hk _ => hk)
    have h1 := ownsRow_only hy hgo (fun g hg e => by
      obtain ⟨cs, hb⟩ := own_blk hra.row e
      exact own_blk_ne hy hb (by decide) hg)
    exact ownsRow_only h1 ho1 (fun g hg e => own_blk_ne hy hbx (by decide) (by rw [hg, e]))
  have hnew : ∀ k, recC (.slice A2 (pre ++ [x]).length c2) (pre ++ [x]) k → C k ∨ x.val.ownBlock = some k ∨ W.heap.size ≤ k := by
    rintro k (hk | ⟨y, hy, hk⟩)
    · rw [List.length_append, List.length_singleton] at hk
      rcases hat with h | h
      · exact .inl ((hC k).2 (.inr (.inr (.inl (by rw [← h]; exact hk)))))
      · rw [h] at hk
        injection hk with hk
        exact .inr (.inr (by omega))
    · rcases List.mem_append.1 hy with hy | hy
      · exact .inl ((hC k).2 (.inr (.inr (.inr ⟨y, hy, hk⟩))))
      · simp at hy
        subst hy
        exact .inr (.inl hk)
  have hR : RecsAt (W2.setCell ⟨rbx, 0, none⟩ (.slice A2 (pre.length + 1) c2)) w.heap.size (.slice A2 (pre ++ [x]).length c2) (pre ++ [x]) := by
    refine ⟨?_, fun y hy => ?_, ?_⟩
    · rw [List.length_append, List.length_singleton, List.map_append]
      exact ownsRow_only hown ho1 (fun g hg e => own_blk_ne hown hb2 (by decide) (by rw [hg, e]))
    · rcases List.mem_append.1 hy with hy | hy
      · exact hrecs y (hra.recs y hy)
      · simp at hy
        subst hy
        exact hrecs _ hxo
    · refine List.pairwise_append.2 ⟨hra.apart, List.pairwise_singleton _ _, fun y hy z hz g0 hg0 e => ?_⟩
      simp at hz
      subst hz
      exact hxC g0 e ((hC g0).2 (.inr (.inr (.inr ⟨y, hy, hg0⟩))))
  refine ⟨fun k => (k < w.heap.size ∧ ¬ M.foot b k) ∨ k = rbx ∨ recC (.slice A2 (pre ++ [x]).length c2) (pre ++ [x]) k, ⟨A2, c2, fun _ => Iff.rfl, ?_, hR, ?_⟩, ho, fun k hk => ⟨?_, ?_⟩⟩
  · rw [List.length_append, List.length_singleton]
    exact hb2.set_ 0 _
  · refine ⟨ho.os.trans hon.os, ho.tape.trans hon.tape, ho.output.trans hon.output, Nat.le_trans hon.size ho.size, fun k hk hf => ?_⟩
    have hk2 : k < W.heap.size := Nat.lt_of_lt_of_le hk hon.size
    refine (Eq.trans ?_ (hon.block k hk hf))
    have e1 := ho1.block k (Nat.lt_of_lt_of_le hk2 (Nat.le_trans (by simp) hg.size)) (fun e => by have e4 : k = rbx := e; omega)
    refine e1.trans ((hg.block k (by simp; omega) (fun e => ?_)).trans (Below.heap_alloc W _ k hk2))
    have := (hra.row.lt k e.symm).1
    omega
  · rcases hk with hk | hk | hk
    · exact .inl ((hC k).2 (.inl hk))
    · exact .inl ((hC k).2 (.inr (.inl hk)))
    · exact hnew k hk
  · rcases hk with hk | hk | hk
    · exact Nat.lt_of_lt_of_le (hClt k ((hC k).2 (.inl hk))) ho.size
    · rw [hk]; exact Nat.lt_of_lt_of_le hrlt ho.size
    · exact (hR.lt k hk).2

theorem five (w : World) (c0 c1 c2 c3 c4 : Array Value) (t0 t1 t2 t3 t4 : TypeId) (W : World) (hW : W = ((((w.alloc (.cells c0 t0)).alloc (.cells c1 t1)).alloc (.cells c2 t2)).alloc (.cells c3 t3)).alloc (.cells c4 t4)) :
    Blk W w.heap.size t0 c0 ∧ Blk W (w.heap.size + 1) t1 c1 ∧ Blk W (w.heap.size + 1 + 1) t2 c2 ∧ Blk W (w.heap.size + 1 + 1 + 1) t3 c3 ∧ Blk W (w.heap.size + 1 + 1 + 1 + 1) t4 c4 ∧ Below w.heap.size w W ∧ W.heap.size = w.heap.size + 1 + 1 + 1 + 1 + 1 := by
  subst hW
  have b1 := Blk.new (w.alloc (.cells c0 t0)) t1 c1
  have b2 := Blk.new ((w.alloc (.cells c0 t0)).alloc (.cells c1 t1)) t2 c2
  have b3 := Blk.new (((w.alloc (.cells c0 t0)).alloc (.cells c1 t1)).alloc (.cells c2 t2)) t3 c3
  have b4 := Blk.new ((((w.alloc (.cells c0 t0)).alloc (.cells c1 t1)).alloc (.cells c2 t2)).alloc (.cells c3 t3)) t4 c4
  simp only [World.size_alloc] at b1 b2 b3 b4
  refine ⟨((((Blk.new w t0 c0).alloc _).alloc _).alloc _).alloc _, ((b1.alloc _).alloc _).alloc _, (b2.alloc _).alloc _, b3.alloc _, b4, ?_, by simp only [World.size_alloc]⟩
  exact (((((Below.refl _ w).alloc (Nat.le_refl _) _).alloc (by simp) _).alloc (by simp; omega) _).alloc (by simp; omega) _).alloc (by simp; omega) _
theorem at_worldListIn {F : Fence} {n : Nat} {P : Program} {ops : Array Oper} {l : List Oper} {Q : Exit → Act → World → Prop} {a : Act} {w : World} (h : ∀ W, Hid (W = w) → wpListIn F n P ops Q l a W) : wpListIn F n P ops Q l a w := h w rfl
theorem at_worldIn {F : Fence} {n : Nat} {P : Program} {c : Code} {Q : Exit → Act → World → Prop} {a : Act} {w : World} (h : ∀ W, Hid (W = w) → c.wpIn F n P Q a W) : c.wpIn F n P Q a w := h w rfl

set_option maxRecDepth 100000 in
set_option maxHeartbeats 4000000 in
theorem replay_any (w : World) (Bd b first count epoch : Nat) (D : Dk) (M : DkM) (h : DiskAt w Bd b D M) (hal : D.dead = false) (h1 : 1 ≤ count) (h2 : count ≤ 64) (h3 : first + count ≤ D.n) :
    Calls Try.prog 18 #[.pointer (some ⟨b, 0, none⟩), .int .i64 (first : Int), .int .i64 (count : Int), .int .u64 (epoch : Int)] w (RetRepl Bd b first count (D.size - 17) epoch D M w) := by
  have H := Lib.hid h
  have hs1 := h.ok.s1
  clear h
  refine (callsIn_wide (n := 3)).1 ?_
  refine callsIn_of_wp_marks Try.func18 rfl trivial ?_ rfl
  simp only [Try.ntmps18, List.size_toArray, List.length_cons, List.length_nil, Nat.reduceAdd, Nat.reduceSub, Array.replicate_succ, Array.replicate_zero, List.push_toArray, List.append_toArray, List.nil_append, List.cons_append]
  gi_wp2_with (first
    | (refine ⟨trivial, ?_⟩; gi_at_call 43; refine (callsIn_wide.2 (lay_ok w Bd b D M first count epoch H.out h1 h2 h3)).mono ?_; unfold placeV; rintro e w1 ⟨rfl, hb1⟩; have HB1 := Lib.hid hb1; clear hb1)
    | (refine ⟨trivial, ?_⟩; gi_at_call 48; refine (callsIn_wide.2 (records_any _ b first count (D.size - 17) epoch _)).mono ?_; rintro e w2 ⟨rfl, rfl⟩))
  refine at_worldIn ?_
  intro W0 hW0
  have hwle : w.heap.size ≤ w1.heap.size := HB1.out.size
  obtain ⟨_, be, br, bp, bq, hb0, hsz0⟩ := five w1 _ _ _ _ _ _ _ _ _ _ W0 hW0.out
  have hlt : ∀ k, M.foot b k → Bd ≤ k ∧ k < w.heap.size := fun k hk => H.out.foot_lt hk
  have HD0 : Hid (DiskAt W0 Bd b D M) := (H.out.below HB1.out).below hb0
  have HIT : Hid (ItAt W0 Bd b (w1.heap.size + 1 + 1 + 1) (w1.heap.size + 1 + 1 + 1 + 1) (w1.heap.size + 1) first count (D.size - 17) epoch D M) := ⟨HD0.out, bp, bq, be⟩
  have HFT : Hid (∀ k, itFoot M b (w1.heap.size + 1 + 1 + 1) (w1.heap.size + 1 + 1 + 1 + 1) (w1.heap.size + 1) k → k < W0.heap.size) := HIT.out.lt
  have HI0 : Hid (replI w M b (w1.heap.size + 1 + 1) [] (fun k => (k < w.heap.size ∧ ¬ M.foot b k) ∨ k = w1.heap.size + 1 + 1 ∨ recC (.slice none 0 0) [] k) W0) :=
    ⟨none, 0, fun _ => Iff.rfl, br, RecsAt.nil _ _, (Only.of_below HB1.out).trans (Only.of_below (F := fun _ => False) hb0) (fun _ _ h => h.elim)⟩
  have HC0 : Hid (∀ k, ((k < w.heap.size ∧ ¬ M.foot b k) ∨ k = w1.heap.size + 1 + 1 ∨ recC (.slice none 0 0) [] k) → k < W0.heap.size ∧ ¬ itFoot M b (w1.heap.size + 1 + 1 + 1) (w1.heap.size + 1 + 1 + 1 + 1) (w1.heap.size + 1) k) := by
    rintro k (⟨hk, hf⟩ | rfl | (hk | ⟨y, hy, _⟩))
    · refine ⟨by omega, ?_⟩
      rintro (e | e | e | e)
      · exact hf e
      all_goals omega
    · refine ⟨by omega, ?_⟩
      rintro (e | e | e | e)
      · have := (hlt _ e).2; omega
      all_goals omega
    · cases hk
    · cases hy
  clear be br bp bq hb0 hW0
  refine wpIn_rangeFunc_R (n := 3) rfl (by omega) (gf := 74) (lb := #[.pointer (some ⟨w1.heap.size + 1 + 1 + 1, 0, none⟩), .pointer (some ⟨w1.heap.size + 1 + 1 + 1 + 1, 0, none⟩)]) rfl trivial (enters_of Try.func74 (by kernel_rfl) rfl)
    (records1_stops 2 (by omega) W0 Bd b _ _ (w1.heap.size + 1) first count (D.size - 17) epoch D M HIT.out hal h3 (by omega) h2) (Below.refl _ _) rfl HFT.out (itS_abides _ _ _ _ _ _ _ _ _ _ _) (itSp_abides _ _ _ _ _ _ _ _ _ _ _)
    (replI w M b (w1.heap.size + 1 + 1)) (fun _ _ _ _ => False) (replI_abides _ _ _ _) (fun _ _ _ _ _ h _ => h) _ HI0.out HC0.out ?a1 ?assign ?body ?done ?stop
  case stop =>
    rintro c pre C W _ h _ _
    exact h.elim
  case assign =>
    intro l i x W K hK
    simp only [RecV.val]
    gi_wp2
    exact hK
  case body =>
    rintro l pre x C W ⟨A, c, hC, hbx, hra, hon⟩ hszW hown hxC hClt hpl _
    obtain ⟨i0, hi, hz0, hz1, hz2⟩ := info_parts infoSl2
    have HC := Lib.hid hC
    have HBX := Lib.hid hbx
    have HRA := Lib.hid hra
    have HON := Lib.hid hon
    have HOWN := Lib.hid (ownsRow_base hown (B' := w.heap.size) (by omega))
    have HXC := Lib.hid hxC
    have HCL := Lib.hid hClt
    have c0 : W.cell? ⟨w1.heap.size + 1 + 1, 0, none⟩ = some (.slice A pre.length c) := hbx.at_ 0 rfl
    have hwW : w.heap.size ≤ W.heap.size := hon.size
    clear hC hbx hra hon hown hxC hClt
    gi_wp2_with (gi_at_builtin; refine at_worldListIn ?_)
    intro W2 hW2
    obtain rfl := hW2.out
    refine wpListIn_append_own_at _ rfl (.tmp 30) (.tmp 32) 25 rfl w.heap.size 36 i0 (.slice none 0 0) 1 24 Try.underlying25 hi hz0 hz1 hz2 rfl (by decide) (.slice A pre.length c) pre.length (pre.map RecV.val) rfl (HRA.out.row.alloc _) ⟨W.heap.size, 0, none⟩ 1 1 [x.val] rfl rfl (cell_one_new _ _ _) (by simp [Value.oneCell', RecV.val]) (by unfold maxLen; omega) (by omega) (by simp; omega) ?_
    intro v' w2 hown' hgrow _ hat
    obtain ⟨A2, c2, rfl⟩ := own_slice hown'
    have hb2 : Blk w2 (w1.heap.size + 1 + 1) 25 #[.slice A pre.length c] := (HBX.out.alloc _).grown hgrow (fun e => own_blk_ne HRA.out.row HBX.out (by decide) e.symm)
    have c1 : w2.cell? ⟨w1.heap.size + 1 + 1, 0, none⟩ = some (.slice A pre.length c) := hb2.at_ 0 rfl
    have f1 := hb2.frozen 0
    have HN := Lib.hid (replI_next (b := b) (rbx := w1.heap.size + 1 + 1) (by omega) HC.out HBX.out HRA.out HON.out HOWN.out HXC.out HCL.out hown' hgrow (by rw [World.size_alloc] at hat; exact hat))
    clear hown' hgrow hat hb2
    gi_wp2
    exact HN.out
  case done =>
    rintro xs C W hS hI hCf hK
    obtain ⟨at_, R, R', hrun, hend, hit⟩ := hS
    obtain ⟨A, c, hC, hbx, hra, hon⟩ := hI
    have HIT2 := Lib.hid hit
    have HRA := Lib.hid hra
    have HON := Lib.hid hon
    have HRUN := Lib.hid hrun
    have HEND := Lib.hid hend
    have HK := Lib.hid hK
    have c0 : W.cell? ⟨w1.heap.size + 1 + 1, 0, none⟩ = some (.slice A xs.length c) := hbx.at_ 0 rfl
    have c1 : W.cell? ⟨w1.heap.size + 1, 0, none⟩ = some (.int .i64 0) := hit.er.at_ 0 rfl
    clear hC hbx hra hon hit hrun hend hCf
    gi_wp2
    refine ⟨by simp, .inl ⟨_, _, rfl, run_takeDeferred HK.out, ?_⟩⟩
    have hon : Only (fun k => k = W0.heap.size) W (W.putObj W0.heap.size (.deferred none)) := only_putObj _ _ _ _ rfl
    refine ⟨_, results_tmp2 rfl _ _ _, ?_⟩
    · refine ⟨xs, at_, R, R', A, c, HRUN.out, HEND.out, rfl, HRA.out.only hon (fun k hk e => ?_), HIT2.out.dk.only hon (fun k hk e => ?_), HON.out.trans hon (fun k hk e => ?_)⟩
      · have e2 : k = W0.heap.size := e
        have hcell : ∃ t cs, Blk W k t cs := by
          rcases hk with hk | ⟨y, hy, hk⟩
          · obtain ⟨cs, hb⟩ := own_blk HRA.out.row hk
            exact ⟨_, cs, hb⟩
          · obtain ⟨cs, hb⟩ := own_blk (HRA.out.recs y hy) hk
            exact ⟨_, cs, hb⟩
        obtain ⟨t, cs, hb⟩ := hcell
        have hk2 := HK.out
        rw [← e2] at hk2
        unfold Blk at hb
        rw [hb] at hk2
        cases hk2
      · have e2 : k = W0.heap.size := e
        have := (hlt k hk).2
        omega
      · have e2 : k = W0.heap.size := e
        omega
end Go.Proofs.Ytenommboacjopaa
