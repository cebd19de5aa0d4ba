/- arborlaw5.full by its contract. -/
import Derived.Test.YtenommboacjopaaPlay1
import Derived.Test.YtenommboacjopaaRooms1
namespace Go.Proofs.Ytenommboacjopaa
open Go.RowKit

/-- The records that came in, as lists. -/
theorem RowsB.lists {w : World} {R : Option Addr} {len : Nat} (h : RowsB w R len) : ∃ rs : List (List UInt8), rs.length = len ∧ RowsC w w.heap.size R rs ∧ ∀ r ∈ rs, r.length ≤ 140737488351232 := by
  have key : ∀ n, n ≤ len → ∃ rs : List (List UInt8), rs.length = n ∧ RowsC w w.heap.size R rs ∧ ∀ r ∈ rs, r.length ≤ 140737488351232 := by
    intro n
    induction n with
    | zero => intro _; exact ⟨[], rfl, fun j r hj => by simp at hj, fun r hr => by cases hr⟩
    | succ n ih =>
      intro hn
      obtain ⟨rs, hl, hc, hb⟩ := ih (by omega)
      obtain ⟨ad, A, m, c, bs, hR, hcell, hrd, hm⟩ := h.look (show n < len by omega)
      have hbl := hrd.blen
      refine ⟨rs ++ [bs], by simp [hl], fun j r hj => ?_, fun r hr => ?_⟩
      · by_cases hlt : j < rs.length
        · rw [List.getElem?_append_left hlt] at hj
          exact hc j r hj
        · have hj' : j = rs.length := by
            have := (List.getElem?_eq_some_iff.1 hj).1
            simp at this; omega
          subst hj'
          rw [List.getElem?_append_right (Nat.le_refl _)] at hj
          simp at hj
          subst hj
          subst hbl
          exact ⟨ad, A, c, hR, fun w' hb' => ⟨by rw [hl]; exact hcell.out w' hb', hrd.below hb'⟩⟩
      · rcases List.mem_append.1 hr with hr | hr
        · exact hb r hr
        · simp at hr; subst hr; omega
  exact key len (Nat.le_refl _)
theorem RowsC.turn {w w' : World} {B : Nat} {R : Option Addr} {rs : List (List UInt8)} (h : RowsC w B R rs) (hb : Below B w w') : RowsC w' B R rs := fun j r hj => by
  obtain ⟨ad, A, c, e, hc⟩ := h j r hj
  exact ⟨ad, A, c, e, fun w2 h2 => hc w2 (hb.trans h2)⟩
theorem KeptRow.rows {w wr : World} {B c : Nat} {A : Option Addr} {T : List (List UInt8)} (h : KeptRow w B wr (.slice A T.length c) T) (hb : Below B w wr) : RowsL wr A T := by
  obtain ⟨cs, hown, hone, hel⟩ := h
  have hrd := Rd.of_own hown
  refine ⟨fun j r hj => ?_⟩
  have hlt := (List.getElem?_eq_some_iff.1 hj).1
  obtain ⟨ad, u, e, hbl, hx, hcell⟩ := Rd.at_ hrd hlt
  obtain ⟨A', c', h1, h2⟩ := hel j r hj
  rw [h1] at hx
  injection hx with hx
  subst hx
  exact ⟨ad, A', c', e, hbl, hcell, h2 wr hb⟩

theorem took_all (cap : Nat) (rs : List (List UInt8)) : ∀ r ∈ (took cap rs).2, 1 ≤ r.length ∧ r.length ≤ 1024 := by
  refine snoc_ind (P := fun rs => ∀ r ∈ (took cap rs).2, 1 ≤ r.length ∧ r.length ≤ 1024) (fun r hr => by cases hr) ?_ rs
  intro l r ih
  rw [took_snoc]
  unfold tookStep
  split
  · rename_i h
    intro x hx
    rcases List.mem_append.1 hx with hx | hx
    · exact ih x hx
    · simp at hx; subst hx; exact ⟨h.1, h.2.1⟩
  · exact ih

/-- How many bytes of the stream stand ahead of each record, and behind the last of the first k. -/
def endsL (T : List (List UInt8)) (k : Nat) : List Value := (List.range (k + 1)).map fun j => .int .i64 ((streamB (T.take j)).length : Int)
theorem endsL_succ (T : List (List UInt8)) (k : Nat) : endsL T (k + 1) = endsL T k ++ [.int .i64 ((streamB (T.take (k + 1))).length : Int)] := by
  unfold endsL
  rw [List.range_succ, List.map_append]; rfl
theorem endsL_at {T : List (List UInt8)} {k j : Nat} (hj : j ≤ k) : (endsL T k)[j]? = some (.int .i64 ((streamB (T.take j)).length : Int)) := by
  unfold endsL
  rw [List.getElem?_map, List.getElem?_range (by omega)]; rfl
theorem endsL_len (T : List (List UInt8)) (k : Nat) : (endsL T k).length = k + 1 := by simp [endsL]
theorem endsL_zero (T : List (List UInt8)) : endsL T 0 = [.int .i64 0] := by simp [endsL, streamB]

/-- The disk with the log of the records that have room, synced. -/
structure FullDisk (w' : World) (B b : Nat) (y : Lay) (T : List (List UInt8)) (D : Dk) (M : DkM) : Prop where
  dk : DiskAt w' B b D M
  n : D.n = y.n
  size : D.size = y.size
  wait : D.wait = []
  good : Good D
  dur : D.dur = layAll (List.replicate (y.n * y.size) 0) y.size (wantL y.first y.ep (y.size - 17) y.size (streamB T) y.count)
def RetFull (y : Lay) (w : World) (T : List (List UInt8)) (e : Ending) (w' : World) : Prop :=
  ∃ b A c A2 c2 D M, e = .returned (.tuple #[.pointer (some ⟨b, 0, none⟩), .slice A T.length c, .slice A2 (T.length + 1) c2, .bool true]) ∧ FullDisk w' w.heap.size b y T D M ∧ RowsL w' A T ∧ w'.ownsRow w.heap.size 3 1 (.slice A2 (T.length + 1) c2) (T.length + 1) (endsL T T.length) ∧ Below w.heap.size w w' ∧ ∃ w2, w.heap.size ≤ w2.heap.size ∧ Below w.heap.size w2 w' ∧ KeptRow w2 w.heap.size w' (.slice A T.length c) T

theorem infoInt : (Try.prog.info? 3).map (fun i => (i.zero, i.size, i.bytes)) = some (some (.int .i64 0), 1, 8) := by kernel_rfl

theorem play_fresh (w : World) (B b n size : Nat) (dur : List UInt8) (D : Dk) (M : DkM) (R : Option Addr) (len cap first count epoch : Nat) (late : Int) (rs T : List (List UInt8)) (hD : D = freshDk size n dur) (hT : T = (took (count * (size - 17)) rs).2) (hd : DiskAt w B b (freshDk size n dur) M) (hrows : RowsC w B R rs) (hl : rs.length = len) (hlen : len ≤ maxLen)
    (hbig : ∀ r ∈ rs, r.length ≤ 140737488351232) (hB : B ≤ w.heap.size) (h1 : 1 ≤ count) (h2 : count ≤ 64) (h3 : first + count ≤ n) :
    Calls Try.prog 35 #[.pointer (some ⟨b, 0, none⟩), .int .i64 (size : Int), .int .i64 (first : Int), .int .i64 (count : Int), .int .u64 (epoch : Int), .agg #[.slice R len cap, .slice none 0 0, .int .i64 late, .int .i64 (-1), .slice none 0 0]] w
      (RetPlay B b n size first count epoch dur w M T) := by
  obtain ⟨hn, hs, hu, hg1, hg2, hg3⟩ : D.n = n ∧ D.size = size ∧ D.dur = dur ∧ D.dead = false ∧ D.armed = -1 ∧ D.wait = [] := by rw [hD]; exact ⟨rfl, rfl, rfl, rfl, rfl, rfl⟩
  rw [← hD] at hd
  clear hD
  subst hn hs hu hT
  exact play_any w B b D M R len cap first count epoch late rs hd ⟨hg1, hg2⟩ hg3 hrows hl hlen hbig hB h1 h2 h3

theorem FullDisk.below {w w' : World} {B b : Nat} {y : Lay} {T : List (List UInt8)} {D : Dk} {M : DkM} (h : FullDisk w B b y T D M) (hb : Below w.heap.size w w') : FullDisk w' B b y T D M :=
  ⟨h.dk.below hb, h.n, h.size, h.wait, h.good, h.dur⟩
theorem Runs.full {B b l : Nat} {y : Lay} {w wr : World} {M0 : DkM} {D : Dk} {M : DkM} {L : Lg} {tv : Value} {T : List (List UInt8)} (h : Runs B b l y.n y.size y.first y.count y.ep (List.replicate (y.n * y.size) 0) w M0 D M L tv (streamB T) wr) (hT : (streamB T).length ≤ y.count * (y.size - 17)) {w' : World} {M' : DkM} (hd : DiskAt w' B b D.flush M') :
    FullDisk w' B b y T D.flush M' := by
  obtain ⟨h1, h2, h3, h4, h5, h6, h7, h8⟩ := y.ok
  refine ⟨hd, h.n, h.size, rfl, ⟨h.good.dead, h.good.armed⟩, ?_⟩
  have hi := h.has.image h.dk.ok h.n h6 (by rw [h.size]; omega) hT
  rw [h.dur, h.size] at hi
  show layAll D.dur D.size D.wait = _
  rw [h.dur, h.size]
  exact hi

set_option maxRecDepth 100000 in
set_option maxHeartbeats 4000000 in
theorem full_any (w : World) (y : Lay) (R : Option Addr) (len cap : Nat) (rs : List (List UInt8)) (hR : RowsC w w.heap.size R rs) (hl : rs.length = len) (hlen : len ≤ maxLen) (hbig : ∀ r ∈ rs, r.length ≤ 140737488351232) :
    Calls Try.prog 23 #[layV y, .slice R len cap] w (RetFull y w (took (y.count * (y.size - 17)) rs).2) := by
  have HR := Lib.hid hR
  have HLEN := Lib.hid hl
  have HML := Lib.hid hlen
  have HBIG := Lib.hid hbig
  have HOK := Lib.hid y.ok
  clear hR hl hlen hbig
  have hz : layV y = .agg #[.int .i64 y.s, .int .i64 y.f, .int .i64 y.c, .int .i64 y.b, .int .u64 (y.ep : Int)] := rfl
  rw [hz]
  clear hz
  have hTL := took_len (y.count * (y.size - 17)) rs
  have hTC := took_count (y.count * (y.size - 17)) rs
  have hTA := took_all (y.count * (y.size - 17)) rs
  obtain ⟨T, hT⟩ : ∃ T, T = (took (y.count * (y.size - 17)) rs).2 := ⟨_, rfl⟩
  rw [← hT] at hTL hTC hTA ⊢
  have HT := Lib.hid hT
  have HTA := Lib.hid hTA
  have HSL : Hid ((streamB T).length ≤ y.count * (y.size - 17)) := by show _ ≤ _; rw [← hTL.1]; exact hTL.2
  have HPM : Hid ((streamB T).length ≤ 64448) := by
    have h1 : y.count * (y.size - 17) ≤ 64 * 1007 := Nat.mul_le_mul HOK.out.2.2.2.2.1 (by have := HOK.out.2.1; omega)
    have h2 := HSL.out
    show _ ≤ _; omega
  have hTn : T.length ≤ 64448 := by have h1 := HPM.out; have h2 := hTL.1; omega
  clear hT hTL hTC hTA
  go_enter Try.func23, Try.ntmps23
  go_wp2_with (first
    | (go_at_call 11; refine (bent_any y _).mono ?_; rintro e w1 ⟨rfl, hb1⟩; have HY1 : Hid (Blk w1 w.heap.size 24 #[.int .i64 y.s, .int .i64 y.f, .int .i64 y.c, .int .i64 y.b, .int .u64 (y.ep : Int)]) := (Blk.new w _ _).below hb1 (by simp); have HB1 : Hid (Below w.heap.size w w1) := ((Below.refl _ w).alloc (Nat.le_refl _) _).trans (hb1.mono (by simp)); clear hb1)
    | (go_at_call 12; refine (new_ok y.n y.size _ HOK.out.1 HOK.out.2.1 HOK.out.2.2.2.2.2.2.2 (by have := HOK.out.2.2.2.2.2.2.1; omega)).mono ?_; rintro e w2 ⟨b, M, rfl, hd, hb2⟩; have HD : Hid (DiskAt w2 w.heap.size b (freshDk y.size y.n (List.replicate (y.n * y.size) 0)) M) := hd.base HB1.out.size; have HB2 : Hid (Below w.heap.size w w2) := HB1.out.trans (hb2.mono HB1.out.size); have k4 : w2.cell? ⟨w.heap.size, 4, none⟩ = some (.int .u64 (y.ep : Int)) := (HY1.out.below hb2 HY1.out.lt).at_ 4 rfl; clear hd hb2)
    | (go_at_call 35; refine (play_fresh w2 w.heap.size b y.n y.size _ _ M R len cap y.first y.count y.ep 0 rs T rfl HT.out HD.out (HR.out.turn HB2.out) HLEN.out HML.out HBIG.out HB2.out.size HOK.out.2.2.2.1 HOK.out.2.2.2.2.1 HOK.out.2.2.2.2.2.1).mono ?_; rintro e w3 ⟨A, c, D3, M3, L3, tv3, l, rfl, hrun, hrow⟩; have HV := Lib.hid hrun; have HW := Lib.hid hrow; clear hrun hrow)
    | (go_at_call 51; refine at_calls ?_))
  intro W4 hW4
  have hs3 : w.heap.size ≤ w3.heap.size := Nat.le_trans HB2.out.size HV.out.below.size
  have HKB : Hid (Blk W4 w3.heap.size 73 #[.slice A T.length c, .int .i64 0, .bool false, .slice none 0 0]) := by rw [hW4.out]; exact Blk.new _ _ _
  have hb34 : Below w3.heap.size w3 W4 := by rw [hW4.out]; exact (Below.refl _ w3).alloc (Nat.le_refl _) _
  have HV4 := Lib.hid (HV.out.turn hs3 hb34)
  have HW4 : Hid (KeptRow w2 w.heap.size W4 (.slice A T.length c) T) := by
    obtain ⟨cs, h1, h2, h3⟩ := HW.out
    exact ⟨cs, own_below h1 hb34, h2, h3⟩
  clear hW4 hb34 k4
  refine (flush_any W4 w.heap.size b D3 M3 HV4.out.dk HV4.out.good.dead).mono ?_
  rintro e W5 ⟨M5, rfl, hd5, ho5, _⟩
  have HFD := Lib.hid (HV4.out.full HSL.out hd5)
  have HB5 : Hid (Below w.heap.size w W5) := (HB2.out.trans HV4.out.below).trans (ho5.below (fun k hk => (HV4.out.dk.foot_lt hk).1) (Nat.le_trans HB2.out.size HV4.out.below.size))
  have HK5 : Hid (Blk W5 w3.heap.size 73 #[.slice A T.length c, .int .i64 0, .bool false, .slice none 0 0]) := HKB.out.only ho5 (HV4.out.dk.not_foot HKB.out (by decide) (by decide) (by decide))
  have HB25 : Hid (Below w.heap.size w2 W5) := HV4.out.below.trans (ho5.below (fun k hk => (HV4.out.dk.foot_lt hk).1) (Nat.le_trans HB2.out.size HV4.out.below.size))
  have HKR5 : Hid (KeptRow w2 w.heap.size W5 (.slice A T.length c) T) := by
    obtain ⟨cs, h1, h2, h3⟩ := HW4.out
    refine ⟨cs, ownsRow_only h1 ho5 (fun g hg => ?_), h2, h3⟩
    obtain ⟨cc, hb⟩ := own_blk h1 hg
    exact HV4.out.dk.not_foot hb (by decide) (by decide) (by decide)
  have HR5 : Hid (RowsL W5 A T) := KeptRow.rows HKR5.out HB25.out
  clear hd5 ho5
  go_wp2_with fail
  go_loopw [16, 17] (fun v i wr => ∃ (k : Nat) (A2 : Option Addr) (c2 : Nat), k ≤ T.length ∧ i = .int .i64 (k : Int) ∧ v = .slice A2 (k + 1) c2 ∧ wr.ownsRow W5.heap.size 3 1 (.slice A2 (k + 1) c2) (k + 1) (endsL T k) ∧ Below W5.heap.size W5 wr) (fun _ i _ => T.length - (intOf i).toNat)
  case atStart => exact ⟨0, _, _, Nat.zero_le _, rfl, rfl, by rw [endsL_zero]; exact own_full (base := W5.heap.size) (n := 1) (e := 3) (cs := [.int .i64 0]) W5 (Nat.le_refl _) rfl (by unfold maxLen; omega) (by simp [Value.oneCell']), (Below.refl _ W5).alloc (Nat.le_refl _) _⟩
  case round =>
    obtain ⟨k, A2, c2, hk, rfl, rfl, hown, hb6⟩ := hrel
    have HOW := Lib.hid hown
    have HB6 := Lib.hid hb6
    have k0 : wr.cell? ⟨w3.heap.size, 0, none⟩ = some (.slice A T.length c) := (HK5.out.below hb6 HK5.out.lt).at_ 0 rfl
    have HR6 := Lib.hid (HR5.out.below hb6)
    clear hown hb6
    by_cases hlt : k < T.length
    · obtain ⟨r, hr⟩ : ∃ r, T[k]? = some r := ⟨_, List.getElem?_eq_getElem hlt⟩
      obtain ⟨ad, Ar, cr, rfl, _, hcell, _⟩ := HR6.out.at_ k r hr
      have hrm : r.length ≤ 1024 := (HTA.out r (List.mem_of_getElem? hr)).2
      have HRK := Lib.hid hr
      obtain ⟨a2, u2, rfl, _, hu2, hc2⟩ := Rd.at_ (Rd.of_own HOW.out) (show k < k + 1 by omega)
      rw [endsL_at (Nat.le_refl k)] at hu2
      injection hu2 with hu2
      subst hu2
      obtain ⟨s, hs⟩ : ∃ s, s = (streamB (T.take k)).length := ⟨_, rfl⟩
      have hsm : s ≤ 64448 := by have h1 := streamB_take_le T k; have h2 := HPM.out; omega
      rw [← hs] at hc2
      obtain ⟨m, hm⟩ : ∃ m, m = k + 1 := ⟨_, rfl⟩
      have hkm : k < m := by omega
      have HM := Lib.hid hm
      rw [← hm] at HOW ⊢
      have HS : Hid ((streamB (T.take (k + 1))).length = s + 2 + r.length) := by
        show _ = _
        have e1 : T.take (k + 1) = T.take k ++ [r] := by rw [List.take_add_one, hr]; rfl
        rw [e1, streamB_snoc, List.length_append, List.length_append, leB_length, hs]
      clear hr hs hm
      have hsz : W5.heap.size ≤ wr.heap.size := HB6.out.size
      have H1 : Hid (m + 1 ≤ maxLen) := by have hm := HM.out; show _ ≤ _; unfold maxLen; omega
      have H2 : Hid ((m + 1) * 8 ≤ 140737488355328) := by have hm := HM.out; show _ ≤ _; omega
      obtain ⟨i0, hi, hz0, hz1, hz2⟩ := info_parts infoInt
      go_wp2_with fail
      have HO7 : Hid ((wr.drew).ownsRow W5.heap.size 3 1 (.slice (some a2) m c2) m (endsL T k)) := HOW.out
      have HB7 : Hid (Below W5.heap.size W5 wr.drew) := HB6.out.drew
      have y1 : IntKind.i64.wrap ((s : Int) + 2) = (s : Int) + 2 := wrapi (by omega) (by omega)
      have y2 : IntKind.i64.wrap ((s : Int) + 2 + (r.length : Int)) = (s : Int) + 2 + (r.length : Int) := wrapi (by omega) (by omega)
      go_region_law (refine step_append_lies _ (by rfl) (.tmp 64) (.tmp 77) 44 (by rfl) W5.heap.size 3 i0 (.int .i64 0) 1 8 Try.underlying44 hi hz0 hz1 hz2 rfl (by omega) (.slice (some a2) m c2) m (endsL T k) (by rfl) ((HOW.out.alloc _).drew) ⟨wr.heap.size, 0, none⟩ 1 1 [.int .i64 ((s : Int) + 2 + (r.length : Int))] (by rfl) (by rfl) (World.news_of_block (cs := #[.int .i64 ((s : Int) + 2 + (r.length : Int))]) (t := 3) (fr := (0, 0)) (heap_alloc_new wr (Obj.cells #[.int .i64 ((s : Int) + 2 + (r.length : Int))] 3))) (by simp [Value.oneCell']) (by omega) H1.out H2.out (by simp; omega) (wr.heap.size + 1) (by simp) ?_; intro gg cap8 w8 hown8 hg8 hat8 hlt8)
      all_goals (rename_i K hK; refine hK _ _ ?_; clear hK)
      all_goals (
        have HO8 := Lib.hid hown8
        have HB8 : Hid (Below W5.heap.size W5 w8) := ((HB6.out.alloc hsz _).drew).grown hg8 (by simp; omega) (fun j e => (HOW.out.lt j e).1)
        clear hown8 hg8 hat8 hlt8 HO7 HB7 y1 y2
        go_wp2
        refine ⟨⟨k + 1, _, _, by omega, by go_num, by rw [← HM.out], ?_, HB8.out⟩, ?_⟩
        · have e : ((s + 2 + r.length : Nat) : Int) = (s : Int) + 2 + (r.length : Int) := by omega
          rw [endsL_succ, HS.out, e, ← HM.out]
          exact HO8.out
        · simp [intOf]; omega)
    · obtain rfl : k = T.length := by omega
      go_wp2_with fail
      go_quiet (fail)
      go_wp2
      refine bodyPost_ret (v := .tuple #[.pointer (some ⟨b, 0, none⟩), .slice A T.length c, .slice A2 (T.length + 1) c2, .bool true]) (by simp [results, Try.results23, go_sem]) rfl ?_
      have hdr : Below wr.heap.size wr (wr.drewN nq) := below_drewN (Below.refl _ _) _
      have HKF : Hid (KeptRow w2 w.heap.size (wr.drewN nq) (.slice A T.length c) T) := by
        obtain ⟨cs, h1, h2, h3⟩ := HKR5.out
        exact ⟨cs, own_below (own_below h1 HB6.out) hdr, h2, h3⟩
      exact ⟨b, A, c, A2, c2, _, _, rfl, (HFD.out.below HB6.out).below hdr, HR6.out.below hdr, ownsRow_base (own_below HOW.out hdr) (Nat.le_trans HB2.out.size HB25.out.size), below_drewN (HB5.out.trans (HB6.out.mono HB5.out.size)) nq, w2, HB2.out.size, below_drewN (HB25.out.trans (HB6.out.mono HB5.out.size)) nq, HKF.out⟩
end Go.Proofs.Ytenommboacjopaa
