/- arborlaw5.play without a loss of power, without syncs: the walk. -/
import Derived.Test.YtenommboacjopaaPlay
namespace Go.Proofs.Ytenommboacjopaa
open Go.RowKit

/-- Records that came in: each cell and each record reads so as long as nothing below B is turned. -/
def RowsC (w : World) (B : Nat) (R : Option Addr) (rs : List (List UInt8)) : Prop :=
  ∀ (j : Nat) (r : List UInt8), rs[j]? = some r → ∃ ad A c, R = some ad ∧ ∀ w', Below B w w' → w'.cell? (ad.add j) = some (.slice A r.length c) ∧ RdB w' A r.length r
/-- The slices of the records that were taken, as a row of values. -/
def KeptRow (w : World) (B : Nat) (wr : World) (kv : Value) (T : List (List UInt8)) : Prop :=
  ∃ cs : List Value, wr.ownsRow w.heap.size 36 1 kv T.length cs ∧ (∀ u ∈ cs, u.oneCell' = true) ∧ ∀ (j : Nat) (r : List UInt8), T[j]? = some r → ∃ A c, cs[j]? = some (.slice A r.length c) ∧ ∀ w', Below B w w' → RdB w' A r.length r
theorem KeptRow.snoc {w wr : World} {B : Nat} {kv' : Value} {T : List (List UInt8)} {r : List UInt8} {A : Option Addr} {c : Nat} {cs : List Value} (h2 : ∀ u ∈ cs, u.oneCell' = true) (h3 : ∀ (j : Nat) (r : List UInt8), T[j]? = some r → ∃ A c, cs[j]? = some (.slice A r.length c) ∧ ∀ w', Below B w w' → RdB w' A r.length r) (hl : cs.length = T.length)
    (hown : wr.ownsRow w.heap.size 36 1 kv' (T.length + 1) (cs ++ [.slice A r.length c])) (hr : ∀ w', Below B w w' → RdB w' A r.length r) : KeptRow w B wr kv' (T ++ [r]) := by
  refine ⟨cs ++ [.slice A r.length c], by rw [List.length_append]; exact hown, fun u hu => ?_, fun j r' hj => ?_⟩
  · rcases List.mem_append.1 hu with hu | hu
    · exact h2 u hu
    · simp at hu; subst hu; rfl
  · by_cases hlt : j < T.length
    · rw [List.getElem?_append_left hlt] at hj
      obtain ⟨A', c', e1, e2⟩ := h3 j r' hj
      exact ⟨A', c', by rw [List.getElem?_append_left (by omega)]; exact e1, e2⟩
    · have hj' : j = T.length := by
        have := (List.getElem?_eq_some_iff.1 hj).1
        simp at this; omega
      subst hj'
      rw [List.getElem?_append_right (Nat.le_refl _)] at hj
      simp at hj
      subst hj
      exact ⟨A, c, by rw [List.getElem?_append_right (by omega), hl]; simp, hr⟩

def RetPlay (B b nN sizeN firstN countN epochN : Nat) (durN : List UInt8) (w : World) (M : DkM) (T : List (List UInt8)) (e : Ending) (w' : World) : Prop :=
  ∃ A c D' M' L' tv' l, e = .returned (.tuple #[.agg #[.slice A T.length c, .int .i64 0, .bool false, .slice none 0 0], .bool true]) ∧ Runs B b l nN sizeN firstN countN epochN durN w M D' M' L' tv' (streamB T) w' ∧ KeptRow w B w' (.slice A T.length c) T

theorem took_len (cap : Nat) (rs : List (List UInt8)) : (took cap rs).1 = (streamB (took cap rs).2).length ∧ (took cap rs).1 ≤ cap := by
  refine snoc_ind (P := fun rs => (took cap rs).1 = (streamB (took cap rs).2).length ∧ (took cap rs).1 ≤ cap) ⟨rfl, Nat.zero_le _⟩ ?_ rs
  intro l r ih
  rw [took_snoc]
  unfold tookStep
  split
  · rename_i h
    refine ⟨?_, h.2.2⟩
    show (took cap l).1 + 2 + r.length = (streamB ((took cap l).2 ++ [r])).length
    rw [streamB_snoc, List.length_append, List.length_append, leB_length, ← ih.1]
  · exact ih
theorem took_count (cap : Nat) (rs : List (List UInt8)) : (took cap rs).2.length ≤ (took cap rs).1 := by
  refine snoc_ind (P := fun rs => (took cap rs).2.length ≤ (took cap rs).1) (Nat.le_refl _) ?_ rs
  intro l r ih
  rw [took_snoc]
  unfold tookStep
  split
  · show ((took cap l).2 ++ [r]).length ≤ (took cap l).1 + 2 + r.length
    rw [List.length_append, List.length_singleton]; omega
  · exact ih
theorem infoSl : (Try.prog.info? 36).map (fun i => (i.zero, i.size, i.bytes)) = some (some (.slice none 0 0), 1, 24) := by kernel_rfl

/-- The loop of play. -/
structure PLoop (B b l nN sizeN firstN countN epochN : Nat) (durN : List UInt8) (w : World) (M : DkM) (R : Option Addr) (len cap : Nat) (late : Int) (rs : List (List UInt8)) (k : Nat) (A : Option Addr) (c : Nat) (D' : Dk) (M' : DkM) (L : Lg) (tv : Value) (wr : World) : Prop where
  kle : k ≤ len
  run : Runs B b l nN sizeN firstN countN epochN durN w M D' M' L tv (streamB (took (countN * (sizeN - 17)) (rs.take k)).2) wr
  num : L.cnt = (took (countN * (sizeN - 17)) (rs.take k)).2.length
  row : KeptRow w B wr (.slice A (took (countN * (sizeN - 17)) (rs.take k)).2.length c) (took (countN * (sizeN - 17)) (rs.take k)).2
  b0 : Blk wr w.heap.size 78 #[.slice R len cap, .slice none 0 0, .int .i64 late, .int .i64 (-1), .slice none 0 0]
  b1 : Blk wr (w.heap.size + 1) 73 #[.slice none 0 0, .int .i64 0, .bool false, .slice none 0 0]
  b2 : Blk wr (w.heap.size + 2) 73 #[.slice A (took (countN * (sizeN - 17)) (rs.take k)).2.length c, .int .i64 0, .bool false, .slice none 0 0]

set_option maxRecDepth 100000 in
set_option maxHeartbeats 4000000 in
theorem play_any (w : World) (B b : Nat) (D : Dk) (M : DkM) (R : Option Addr) (len cap first count epoch : Nat) (late : Int) (rs : List (List UInt8)) (hd : DiskAt w B b D M) (hg : Good D) (hw : D.wait = []) (hrows : RowsC w B R rs) (hl : rs.length = len) (hlen : len ≤ maxLen)
    (hbig : ∀ r ∈ rs, r.length ≤ 140737488351232) (hB : B ≤ w.heap.size) (h1 : 1 ≤ count) (h2 : count ≤ 64) (h3 : first + count ≤ D.n) :
    Calls Try.prog 35 #[.pointer (some ⟨b, 0, none⟩), .int .i64 (D.size : Int), .int .i64 (first : Int), .int .i64 (count : Int), .int .u64 (epoch : Int), .agg #[.slice R len cap, .slice none 0 0, .int .i64 late, .int .i64 (-1), .slice none 0 0]] w
      (RetPlay B b D.n D.size first count epoch D.dur w M (took (count * (D.size - 17)) rs).2) := by
  have HD := Lib.hid hd
  have HG := Lib.hid hg
  have HW := Lib.hid hw
  have HR := Lib.hid hrows
  have HBIG := Lib.hid hbig
  have HML : Hid (len ≤ maxLen) := hlen
  have HLEN := Lib.hid hl
  have hs1 := hd.ok.s1
  have hs2 := hd.ok.s2
  clear hd hg hw hrows hbig hl hlen
  go_enter Try.func35, Try.ntmps35
  go_wp2_with (go_at_call 13; refine at_calls ?_)
  intro W1 hW1
  have HR1 : Hid (Blk W1 w.heap.size 78 #[.slice R len cap, .slice none 0 0, .int .i64 late, .int .i64 (-1), .slice none 0 0]) := by rw [hW1.out]; exact ((Blk.new _ _ _).alloc _).alloc _
  have HE1 : Hid (Blk W1 (w.heap.size + 1) 73 #[.slice none 0 0, .int .i64 0, .bool false, .slice none 0 0]) := by
    rw [hW1.out]
    have h := (Blk.new (w.alloc (.cells #[.slice R len cap, .slice none 0 0, .int .i64 late, .int .i64 (-1), .slice none 0 0] 78)) 73 #[.slice none 0 0, .int .i64 0, .bool false, .slice none 0 0]).alloc (.cells #[.slice none 0 0, .int .i64 0, .bool false, .slice none 0 0] 73)
    rw [World.size_alloc] at h
    exact h
  have HK1 : Hid (Blk W1 (w.heap.size + 2) 73 #[.slice none 0 0, .int .i64 0, .bool false, .slice none 0 0]) := by
    rw [hW1.out]
    have h := Blk.new ((w.alloc (.cells #[.slice R len cap, .slice none 0 0, .int .i64 late, .int .i64 (-1), .slice none 0 0] 78)).alloc (.cells #[.slice none 0 0, .int .i64 0, .bool false, .slice none 0 0] 73)) 73 #[.slice none 0 0, .int .i64 0, .bool false, .slice none 0 0]
    rw [World.size_alloc, World.size_alloc] at h
    exact h
  have HO1 : Hid (Below w.heap.size w W1) := by rw [hW1.out]; exact (((Below.refl _ w).alloc (Nat.le_refl _) _).alloc (by simp) _).alloc (by simp; omega) _
  clear hW1
  refine (start_ok W1 B b D M first count epoch (HD.out.below HO1.out) h1 h2 h3).mono ?_
  rintro e W2 ⟨l, rfl, hlog, hb2⟩
  have hs0 := HO1.out.size
  have HRUN : Hid (Runs B b l D.n D.size first count epoch D.dur w M D M (freshLg first count (D.size - 17) epoch) (.slice none 0 0) (streamB (took (count * (D.size - 17)) (rs.take 0)).2) W2) := by
    refine ⟨(HD.out.below HO1.out).below hb2, hlog.base (by omega), (fun g e => by cases e), HG.out, (HO1.out.mono hB).trans (hb2.mono (by omega)), rfl, rfl, rfl, rfl, rfl, rfl, rfl, ?_, ?_, by have := hlog.Bl; omega⟩
    · rw [HW.out]; exact Nat.zero_le _
    · refine ⟨by simp [freshLg, took, streamB], by simp [freshLg, took, streamB], by show 0 < D.size - 17; omega, fun a => ?_⟩
      rw [HW.out, if_neg (by rintro ⟨_, h⟩; exact absurd h (Nat.not_lt_zero _))]
      rfl
  have HINIT : Hid (PLoop B b l D.n D.size first count epoch D.dur w M R len cap late rs 0 none 0 D M (freshLg first count (D.size - 17) epoch) (.slice none 0 0) W2) :=
    ⟨Nat.zero_le _, HRUN.out, rfl, ⟨[], World.ownsRow_nil _ _ _ _, (fun u hu => by cases hu), fun j r h => by cases h⟩, HR1.out.below hb2 HR1.out.lt, HE1.out.below hb2 HE1.out.lt, HK1.out.below hb2 HK1.out.lt⟩
  clear hlog hb2 HR1 HE1 HK1 HO1 HRUN hs0
  obtain ⟨cp, hcp⟩ : ∃ cp, cp = count * (D.size - 17) := ⟨_, rfl⟩
  have hPZ : (count : Int) * ((D.size : Int) - 17) = (cp : Int) := by
    have h17 : (D.size : Int) - 17 = ((D.size - 17 : Nat) : Int) := by omega
    rw [h17, ← Int.natCast_mul, hcp]
  have hPm : cp ≤ 64448 := by
    have h1 : count * (D.size - 17) ≤ 64 * 1007 := Nat.mul_le_mul h2 (by omega)
    omega
  have HCP := Lib.hid hcp
  clear hcp
  go_wp2_with fail
  go_loopw [17, 18] (fun u i wr => ∃ (k : Nat) (A : Option Addr) (c : Nat) (D' : Dk) (M' : DkM) (L : Lg) (tv : Value), i = .int .i64 (k : Int) ∧ u = .int .i64 ((took (count * (D.size - 17)) (rs.take k)).1 : Int) ∧ PLoop B b l D.n D.size first count epoch D.dur w M R len cap late rs k A c D' M' L tv wr) (fun _ i _ => len - (intOf i).toNat)
  case atStart => exact ⟨0, none, 0, D, M, _, _, rfl, rfl, HINIT.out⟩
  case round =>
    obtain ⟨k, A, c, D', M', L, tv, rfl, rfl, hI⟩ := hrel
    have HI := Lib.hid hI
    clear hI HINIT
    have c0 : wr.cell? ⟨w.heap.size, 0, none⟩ = some (.slice R len cap) := HI.out.b0.at_ 0 rfl
    have c1 : wr.cell? ⟨w.heap.size, 1, none⟩ = some (.slice none 0 0) := HI.out.b0.at_ 1 rfl
    have c2 : wr.cell? ⟨w.heap.size, 2, none⟩ = some (.int .i64 late) := HI.out.b0.at_ 2 rfl
    have c3 : wr.cell? ⟨w.heap.size, 3, none⟩ = some (.int .i64 (-1)) := HI.out.b0.at_ 3 rfl
    obtain ⟨T, hT⟩ : ∃ T, T = (took (count * (D.size - 17)) (rs.take k)).2 := ⟨_, rfl⟩
    obtain ⟨u, hu⟩ : ∃ u, u = (took (count * (D.size - 17)) (rs.take k)).1 := ⟨_, rfl⟩
    have hTL := took_len (count * (D.size - 17)) (rs.take k)
    have hTC := took_count (count * (D.size - 17)) (rs.take k)
    rw [← hT, ← hu] at hTL
    rw [← hT, ← hu] at hTC
    rw [← hu]
    have HT := Lib.hid hT
    have HU := Lib.hid hu
    have HUS : Hid (u = (streamB T).length) := hTL.1
    have hub : u ≤ cp := by rw [HCP.out]; exact hTL.2
    have hk := HI.out.kle
    have HMX : Hid (len ≤ maxLen) := HML.out
    have hml : len ≤ 9223372036854775807 := HML.out
    clear hT hu hTL
    rcases Nat.lt_or_ge k len with hlt | hge
    · obtain ⟨r, hr⟩ : ∃ r, rs[k]? = some r := ⟨_, List.getElem?_eq_getElem (by rw [HLEN.out]; exact hlt)⟩
      obtain ⟨ad, Ar, cr, rfl, hcl⟩ := HR.out k r hr
      have HCL := Lib.hid hcl
      have hcell := (hcl wr HI.out.run.below).1
      have HRD := Lib.hid (hcl wr HI.out.run.below).2
      have HRK := Lib.hid hr
      have hrb : r.length ≤ 140737488351232 := HBIG.out r (List.mem_of_getElem? hr)
      have hBr : B ≤ wr.heap.size := Nat.le_trans hB HI.out.run.below.size
      clear hcl hr
      obtain ⟨n, hn⟩ : ∃ n, n = r.length := ⟨_, rfl⟩
      rw [← hn] at hcell hrb
      have HN := Lib.hid hn
      clear hn
      by_cases hlate : (k : Int) = late
      all_goals (
        try subst hlate
        by_cases hfit : 1 ≤ n ∧ n ≤ 1024 ∧ u + 2 + n ≤ cp
        · obtain ⟨hf1, hf2, hf3⟩ := hfit
          have HRN : Hid (RdB wr Ar n r) := by have h := HRD.out; rw [← HN.out] at h; exact h
          go_wp2_with (first
            | (go_at_call 15; refine (copy_any Ar n cr r wr HRN.out (by omega)).mono ?_; rintro e w4 ⟨A4, c4, rfl, hown4, hb4⟩; have HV4 := Lib.hid (HI.out.run.turn hBr hb4); have HO4 := Lib.hid (Rd.of_own hown4); have H40 := Lib.hid (HI.out.b0.below hb4 HI.out.b0.lt); have H41 := Lib.hid (HI.out.b1.below hb4 HI.out.b1.lt); have H42 := Lib.hid (HI.out.b2.below hb4 HI.out.b2.lt); have HB4 := Lib.hid hb4; have hB4 : B ≤ w4.heap.size := Nat.le_trans hBr hb4.size; clear hown4 hb4)
            | (go_at_call 14; refine (append_run B b l D.n D.size first count epoch D.dur w w4 M D' M' L tv _ HV4.out hB4 A4 r.length c4 r HO4.out h3 hs1).mono ?_; rintro e w5 ⟨z, D5, M5, L5, tv5, S5, rfl, hrun5, ho5, hcase⟩; have HV5 := Lib.hid hrun5; have HO5 := Lib.hid ho5; have hzS : z = 0 ∧ S5 = streamB T ++ (leB r.length 2 ++ r) ∧ L5.cnt = T.length + 1 := (by { rcases hcase with ⟨a1, a2, _, _, _, a3⟩ | ⟨_, _, _, x, _⟩; { exact ⟨a1, by rw [a2, HT.out], by rw [a3, HI.out.num, HT.out]⟩ }; { exact absurd ⟨by rw [← HN.out]; exact hf1, by rw [← HN.out]; exact hf2, by rw [← HN.out, ← HT.out, ← HUS.out, ← HCP.out]; exact hf3⟩ x } }); obtain ⟨rfl, hS5, hN5⟩ := hzS; have HS5 := Lib.hid hS5; have HN5 := Lib.hid hN5; have H50 := Lib.hid (H40.out.only ho5 (by { rintro (e | e); { exact H40.out.ne_ HV4.out.log.blk (by decide) e }; { exact HV4.out.dk.not_foot H40.out (by decide) (by decide) (by decide) e } })); have H51 := Lib.hid (H41.out.only ho5 (by { rintro (e | e); { exact H41.out.ne_ HV4.out.log.blk (by decide) e }; { exact HV4.out.dk.not_foot H41.out (by decide) (by decide) (by decide) e } })); have H52 := Lib.hid (H42.out.only ho5 (by { rintro (e | e); { exact H42.out.ne_ HV4.out.log.blk (by decide) e }; { exact HV4.out.dk.not_foot H42.out (by decide) (by decide) (by decide) e } })); have k0 : w5.cell? ⟨w.heap.size + 1 + 1, 0, none⟩ = some (.slice A T.length c) := (by rw [HT.out]; exact H52.out.at_ 0 rfl); have kf := H52.out.frozen 0; clear hrun5 ho5 hcase hS5 hN5)
            | (at_builtin; refine at_world_list ?_))
          intro W hW
          obtain ⟨cs, hrow, hone, hel⟩ := HI.out.row
          rw [← HT.out] at hrow hel
          have hr4 := own_below hrow HB4.out
          have hr5 := ownsRow_only hr4 HO5.out (fun g hg => by
            obtain ⟨cc, hb⟩ := own_blk hr4 hg
            rintro (e | e)
            · exact hb.ne_ HV4.out.log.blk (by decide) e
            · exact HV4.out.dk.not_foot hb (by decide) (by decide) (by decide) e)
          have HRW : Hid (W.ownsRow w.heap.size 36 1 (.slice A T.length c) T.length cs) := by rw [hW.out]; exact hr5.alloc _
          have HNW : Hid (Rd W (some ⟨w5.heap.size, 0, none⟩) 1 [.slice Ar n cr]) := by rw [hW.out]; exact Rd.of_blk (Blk.new w5 36 #[.slice Ar n cr]) rfl rfl
          have H62 : Hid (Blk W (w.heap.size + 2) 73 #[.slice A T.length c, .int .i64 0, .bool false, .slice none 0 0]) := by rw [hW.out, HT.out]; exact H52.out.alloc _
          have H61 := Lib.hid (show Blk W (w.heap.size + 1) 73 _ from by rw [hW.out]; exact H51.out.alloc _)
          have H60 := Lib.hid (show Blk W w.heap.size 78 _ from by rw [hW.out]; exact H50.out.alloc _)
          have hwW : w.heap.size ≤ W.heap.size := Nat.le_of_lt H60.out.lt
          have HOW : Hid (Only (fun _ => False) w5 W) := by rw [hW.out]; exact (Only.refl _ w5).alloc _
          have HR5 := Lib.hid hr5
          have HONE := Lib.hid hone
          have HEL := Lib.hid hel
          clear hW hrow hone hel hr4 hr5 k0 kf
          obtain ⟨j0, hj, hj0, hj1, hj2⟩ := info_parts infoSl
          have H1 : Hid (T.length + 1 ≤ maxLen) := by show _ ≤ _; unfold maxLen; omega
          have H2 : Hid ((T.length + 1) * 24 ≤ 140737488355328) := by show _ ≤ _; omega
          refine wpList_append_src rfl (.tmp 123) (.tmp 125) 25 rfl w.heap.size 36 j0 (.slice none 0 0) 24 Try.underlying25 hj hj0 hj1 hj2 rfl _ T.length cs rfl HRW.out _ 1 1 _ rfl HNW.out (fun u hu => by simp at hu; subst hu; rfl) H1.out H2.out hwW ?_
          intro v6 w6 hown6 hg6 hat6
          obtain ⟨A6, c6, rfl⟩ := own_slice hown6
          have H72 := Lib.hid (H62.out.grown hg6 (fun e => own_blk_ne HRW.out H62.out (by decide) e.symm))
          have H71 := Lib.hid (H61.out.grown hg6 (fun e => own_blk_ne HRW.out H61.out (by decide) e.symm))
          have H70 := Lib.hid (H60.out.grown hg6 (fun e => own_blk_ne HRW.out H60.out (by decide) e.symm))
          have HO6 := Lib.hid hown6
          have HG6 := Lib.hid hg6
          have kf : w6.frozen? ⟨w.heap.size + 1 + 1, 0, none⟩ = false := H72.out.frozen 0
          have k0 : w6.cell? ⟨w.heap.size + 1 + 1, 0, none⟩ = some (.slice A T.length c) := H72.out.at_ 0 rfl
          have d0 : w6.cell? ⟨w.heap.size, 0, none⟩ = some (.slice (some ad) len cap) := H70.out.at_ 0 rfl
          have d1 : w6.cell? ⟨w.heap.size, 1, none⟩ = some (.slice none 0 0) := H70.out.at_ 1 rfl
          clear hown6 hg6 hat6
          go_wp2
          have e1 : rs.take (k + 1) = rs.take k ++ [r] := by rw [List.take_add_one, HRK.out]; rfl
          have est : took (count * (D.size - 17)) (rs.take (k + 1)) = (u + 2 + r.length, T ++ [r]) := by
            rw [e1, took_snoc, tookStep, ← HU.out, ← HT.out, if_pos ⟨by rw [← HN.out]; exact hf1, by rw [← HN.out]; exact hf2, by rw [← HN.out, ← HCP.out]; exact hf3⟩]
          have hB5 : B ≤ w5.heap.size := Nat.le_trans hB4 HO5.out.size
          have hon : Only (fun j => j = w.heap.size + 2 ∨ (Value.slice A T.length c).ownBlock = some j) w5 (w6.setCell ⟨w.heap.size + 1 + 1, 0, none⟩ (.slice A6 (T.length + 1) c6)) :=
            ((HOW.out.mono (fun _ _ hf => hf.elim)).grown HG6.out (fun j e _ => .inr e)).setCell (p := ⟨w.heap.size + 1 + 1, 0, none⟩) (fun _ => .inl rfl) _
          have hrun : Runs B b l D.n D.size first count epoch D.dur w M D5 M5 L5 tv5 (streamB (T ++ [r])) (w6.setCell ⟨w.heap.size + 1 + 1, 0, none⟩ (.slice A6 (T.length + 1) c6)) := by
            rw [streamB_snoc, List.append_assoc, ← HS5.out]
            refine HV5.out.only hB5 hon ?_ ?_ ?_ ?_
            · rintro j hf (rfl | e)
              · exact HV5.out.dk.not_foot H52.out (by decide) (by decide) (by decide) hf
              · obtain ⟨cc, hb⟩ := own_blk HR5.out e
                exact HV5.out.dk.not_foot hb (by decide) (by decide) (by decide) hf
            · rintro (e | e)
              · exact HV5.out.log.blk.ne_ H52.out (by decide) e
              · obtain ⟨cc, hb⟩ := own_blk HR5.out e
                exact HV5.out.log.blk.ne_ hb (by decide) rfl
            · rintro g hgo (e | e)
              · exact own_blk_ne HV5.out.log.row H52.out (by decide) (by rw [hgo, e])
              · obtain ⟨cc, hb⟩ := own_blk HR5.out e
                exact own_blk_ne HV5.out.log.row hb (by decide) hgo
            · rintro j (rfl | e)
              · omega
              · have := (HR5.out.lt j e).1; omega
          have hrow : KeptRow w B (w6.setCell ⟨w.heap.size + 1 + 1, 0, none⟩ (.slice A6 (T.length + 1) c6)) (.slice A6 (T.length + 1) c6) (T ++ [r]) := by
            refine KeptRow.snoc HONE.out HEL.out (by have := HRW.out.1; omega) (A := Ar) (c := cr) ?_ (fun w' hb => (HCL.out w' hb).2)
            have h := ownsRow_only (F := fun j => j = w.heap.size + 2) HO6.out ((Only.refl (fun j => j = w.heap.size + 2) w6).setCell (p := ⟨w.heap.size + 1 + 1, 0, none⟩) (fun _ => rfl) (.slice A6 (T.length + 1) c6)) (fun g hg e => own_blk_ne HO6.out H72.out (by decide) (by rw [hg, e]))
            rw [← HN.out]
            exact h
          refine ⟨⟨k + 1, A6, c6, D5, M5, L5, tv5, by go_num, ?_, ⟨by omega, by rw [est]; exact hrun, by rw [est, HN5.out, List.length_append, List.length_singleton], ?_, H70.out.far (by simp; omega) _, H71.out.far (by simp) _, ?_⟩⟩, ?_⟩
          · rw [est]
            show Value.int .i64 _ = Value.int .i64 ((u + 2 + r.length : Nat) : Int)
            rw [← HN.out]
            congr 1
          · rw [est]
            show KeptRow _ _ _ (.slice A6 (T ++ [r]).length c6) (T ++ [r])
            rw [List.length_append]
            exact hrow
          · rw [est]
            show Blk _ _ _ #[.slice A6 (T ++ [r]).length c6, .int .i64 0, .bool false, .slice none 0 0]
            rw [List.length_append]
            exact H72.out.set_ 0 _
          · simp [intOf]; omega
        · have hcs : n < 1 ∨ (1 ≤ n ∧ 1024 < n) ∨ (1 ≤ n ∧ n ≤ 1024 ∧ cp < u + 2 + n) := by omega
          have HNF := Lib.hid hfit
          have HRN : Hid (RdB wr Ar n r) := by have h := HRD.out; rw [← HN.out] at h; exact h
          clear hfit
          rcases hcs with q1 | ⟨q1, q2⟩ | ⟨q1, q2, q3⟩
          all_goals (
            go_wp2_with (first
              | (go_at_call 15; refine (copy_any Ar n cr r wr HRN.out (by omega)).mono ?_; rintro e w4 ⟨A4, c4, rfl, hown4, hb4⟩; have HV4 := Lib.hid (HI.out.run.turn hBr hb4); have HO4 := Lib.hid (Rd.of_own hown4); have H40 := Lib.hid (HI.out.b0.below hb4 HI.out.b0.lt); have H41 := Lib.hid (HI.out.b1.below hb4 HI.out.b1.lt); have H42 := Lib.hid (HI.out.b2.below hb4 HI.out.b2.lt); have HB4 := Lib.hid hb4; have hB4 : B ≤ w4.heap.size := Nat.le_trans hBr hb4.size; clear hown4 hb4)
              | (go_at_call 14; refine (append_run B b l D.n D.size first count epoch D.dur w w4 M D' M' L tv _ HV4.out hB4 A4 r.length c4 r HO4.out h3 hs1).mono ?_; rintro e w5 ⟨z, D5, M5, L5, tv5, S5, rfl, hrun5, ho5, hcase⟩; have HV5 := Lib.hid hrun5; have HO5 := Lib.hid ho5; have hzS : z ≠ 0 ∧ z ≠ 10 ∧ S5 = streamB T ∧ L5.cnt = T.length := (by { rcases hcase with ⟨_, _, x1, x2, x3, _⟩ | ⟨a1, a2, a3, _, a4⟩; { exact absurd ⟨by rw [HN.out]; exact x1, by rw [HN.out]; exact x2, by rw [HN.out, HUS.out, HT.out, HCP.out]; exact x3⟩ HNF.out }; { exact ⟨a1, a2, by rw [a3, HT.out], by rw [a4, HI.out.num, HT.out]⟩ } }); obtain ⟨hz0, hz10, hS5, hN5⟩ := hzS; have HS5 := Lib.hid hS5; have HN5 := Lib.hid hN5; have H50 := Lib.hid (H40.out.only ho5 (by { rintro (e | e); { exact H40.out.ne_ HV4.out.log.blk (by decide) e }; { exact HV4.out.dk.not_foot H40.out (by decide) (by decide) (by decide) e } })); have H51 := Lib.hid (H41.out.only ho5 (by { rintro (e | e); { exact H41.out.ne_ HV4.out.log.blk (by decide) e }; { exact HV4.out.dk.not_foot H41.out (by decide) (by decide) (by decide) e } })); have H52 := Lib.hid (H42.out.only ho5 (by { rintro (e | e); { exact H42.out.ne_ HV4.out.log.blk (by decide) e }; { exact HV4.out.dk.not_foot H42.out (by decide) (by decide) (by decide) e } })); have d1 : w5.cell? ⟨w.heap.size, 1, none⟩ = some (.slice none 0 0) := H50.out.at_ 1 rfl; have d0 : w5.cell? ⟨w.heap.size, 0, none⟩ = some (.slice (some ad) len cap) := H50.out.at_ 0 rfl; clear hrun5 ho5 hcase hS5 hN5))
            obtain ⟨cs, hrow, hone, hel⟩ := HI.out.row
            have hr4 := own_below hrow HB4.out
            have hr5 := ownsRow_only hr4 HO5.out (fun g hg => by
              obtain ⟨cc, hb⟩ := own_blk hr4 hg
              rintro (e | e)
              · exact hb.ne_ HV4.out.log.blk (by decide) e
              · exact HV4.out.dk.not_foot hb (by decide) (by decide) (by decide) e)
            have e1 : rs.take (k + 1) = rs.take k ++ [r] := by rw [List.take_add_one, HRK.out]; rfl
            have est : took (count * (D.size - 17)) (rs.take (k + 1)) = took (count * (D.size - 17)) (rs.take k) := by
              rw [e1, took_snoc, tookStep, ← HU.out, if_neg]
              rw [← HN.out, ← HCP.out]
              exact HNF.out
            refine ⟨⟨k + 1, A, c, D5, M5, L5, tv5, by go_num, by rw [est, HU.out], ⟨by omega, by rw [est, ← HT.out, ← HS5.out]; exact HV5.out, by rw [est, HN5.out, HT.out], ?_, H50.out, H51.out, ?_⟩⟩, ?_⟩
            · rw [est]; exact ⟨cs, hr5, hone, hel⟩
            · rw [est]; exact H52.out
            · simp [intOf]; omega))
    · obtain rfl : k = len := by omega
      have hcap : T.length ≤ 64448 := by have := hTC; omega
      have HCW : Hid (wrap64 (L.cnt : Int) = (T.length : Int)) := by show _ = _; rw [HI.out.num, ← HT.out]; exact wrap64_in (by omega) (by omega)
      have k0 : wr.cell? ⟨w.heap.size + 1 + 1, 0, none⟩ = some (.slice A T.length c) := by rw [HT.out]; exact HI.out.b2.at_ 0 rfl
      have k1 : wr.cell? ⟨w.heap.size + 1 + 1, 1, none⟩ = some (.int .i64 0) := HI.out.b2.at_ 1 rfl
      have k2 : wr.cell? ⟨w.heap.size + 1 + 1, 2, none⟩ = some (.bool false) := HI.out.b2.at_ 2 rfl
      have k3 : wr.cell? ⟨w.heap.size + 1 + 1, 3, none⟩ = some (.slice none 0 0) := HI.out.b2.at_ 3 rfl
      have e0 : wr.cell? ⟨w.heap.size + 1, 0, none⟩ = some (.slice none 0 0) := HI.out.b1.at_ 0 rfl
      have e1 : wr.cell? ⟨w.heap.size + 1, 1, none⟩ = some (.int .i64 0) := HI.out.b1.at_ 1 rfl
      have e2 : wr.cell? ⟨w.heap.size + 1, 2, none⟩ = some (.bool false) := HI.out.b1.at_ 2 rfl
      have e3 : wr.cell? ⟨w.heap.size + 1, 3, none⟩ = some (.slice none 0 0) := HI.out.b1.at_ 3 rfl
      have f0 := HI.out.b1.frozen 0
      have f1 := HI.out.b1.frozen 1
      have f2 := HI.out.b1.frozen 2
      have f3 := HI.out.b1.frozen 3
      have HTT : Hid (T = (took (count * (D.size - 17)) rs).2) := by show _ = _; rw [HT.out, List.take_of_length_le (by rw [HLEN.out]; exact Nat.le_refl _)]
      have HBr : Hid (B ≤ wr.heap.size) := Nat.le_trans hB HI.out.run.below.size
      have HLG : Hid (∀ W', W'.heap = wr.heap → LogAt W' B l b L tv) := fun W' h => HI.out.run.log.keep (by rw [h]) (fun g _ => by rw [h])
      go_wp2_with fail
      go_region_law (go_simp; go_at_call 30; refine (count_any wr.drew B l b L tv (HLG.out wr.drew rfl)).mono ?_; rw [HCW.out]; rintro e w' ⟨rfl, nq, rfl⟩)
      all_goals (rename_i K hK; refine hK _ _ ?_; clear hK)
      all_goals go_wp2
      all_goals (
        have ho := (((((Only.refl (fun j => j = w.heap.size + 1) wr).drewN (1 + nq)).setCell (p := ⟨w.heap.size + 1, 0, none⟩) (fun _ => rfl) (.slice A T.length c)).setCell (p := ⟨w.heap.size + 1, 1, none⟩) (fun _ => rfl) (.int .i64 0)).setCell (p := ⟨w.heap.size + 1, 2, none⟩) (fun _ => rfl) (.bool false)).setCell (p := ⟨w.heap.size + 1, 3, none⟩) (fun _ => rfl) (.slice none 0 0)
        refine bodyPost_ret (v := .tuple #[.agg #[.slice A T.length c, .int .i64 0, .bool false, .slice none 0 0], .bool true]) (by simp [results, Try.results35, go_sem, e0, e1, e2, e3]) rfl ?_
        rw [← HTT.out]
        refine ⟨A, c, D', M', L, tv, l, rfl, ?_, ?_⟩
        · have hrun := HI.out.run
          rw [← HT.out] at hrun
          exact hrun.only HBr.out ho (fun j hf e => HI.out.run.dk.not_foot HI.out.b1 (by decide) (by decide) (by decide) (e ▸ hf)) (HI.out.run.log.blk.ne_ HI.out.b1 (by decide)) (fun g hg e => own_blk_ne HI.out.run.log.row HI.out.b1 (by decide) (by rw [hg, e])) (fun j e => by omega)
        · obtain ⟨cs, hrow, hone, hel⟩ := HI.out.row
          rw [← HT.out] at hrow hel
          exact ⟨cs, ownsRow_only hrow ho (fun g hg e => own_blk_ne hrow HI.out.b1 (by decide) (by rw [hg, e])), hone, hel⟩)
end Go.Proofs.Ytenommboacjopaa
