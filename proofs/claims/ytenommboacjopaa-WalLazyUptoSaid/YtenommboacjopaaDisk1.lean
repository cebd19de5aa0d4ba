/- disk.New, FromImage, fresh, sizeFits, sectors, Shape, ready, Dead by their contracts. -/
import Derived.Test.YtenommboacjopaaDisk0
namespace Go.Proofs.Ytenommboacjopaa
open Go.RowKit

set_option maxHeartbeats 400000 in
theorem sizeFits_yes (s : Int) (w : World) (h1 : 32 ≤ s) (h2 : s ≤ 1024) : Calls Try.prog 41 #[.int .i64 s] w (RetW (.bool true) w) := by
  go_enter Try.func41, Try.ntmps41
  go_wp2
  go_ret
  exact ⟨by simp, rfl⟩
set_option maxHeartbeats 400000 in
theorem sizeFits_no (s : Int) (w : World) (h : s < 32 ∨ 1024 < s) : Calls Try.prog 41 #[.int .i64 s] w (RetW (.bool false) w) := by
  rcases h with h | h
  · go_enter Try.func41, Try.ntmps41
    go_wp2
    go_ret
    exact ⟨rfl, rfl⟩
  · have h32 : 32 ≤ s := by omega
    go_enter Try.func41, Try.ntmps41
    go_wp2
    go_ret
    have hd : decide (s ≤ 1024) = false := decide_eq_false (by omega)
    exact ⟨by simp [hd], rfl⟩

set_option maxHeartbeats 400000 in
theorem fresh_any (gd N size : Nat) (w : World) :
    Calls Try.prog 42 #[.slice (some ⟨gd, 0, none⟩) N N, .int .i64 (size : Int)] w
      (RetW (.pointer (some ⟨w.heap.size + 1, 0, none⟩)) ((w.alloc (.map #[] 0)).alloc (.cells #[.int .i64 (size : Int), .slice (some ⟨gd, 0, none⟩) N N, .slice none 0 0, .map (some w.heap.size), .int .i64 (-1), .bool false, .int .i64 0, .int .i64 0, .int .i64 0] 110))) := by
  have hmm := @run_makeMap Try.prog
  go_enter Try.func42, Try.ntmps42
  go_wp2
  go_ret
  exact ⟨rfl, rfl⟩

theorem tdiv_mul (n s : Nat) (h : 0 < s) : ((n : Int) * (s : Int)).tdiv (s : Int) = (n : Int) := Int.mul_tdiv_cancel _ (by omega)

set_option maxHeartbeats 400000 in
theorem sectors_any (w : World) (B b : Nat) (D : Dk) (M : DkM) (hd : DiskAt w B b D M) :
    Calls Try.prog 91 #[.pointer (some ⟨b, 0, none⟩)] w (RetQ (.int .i64 (D.n : Int)) w) := by
  have c0 := hd.c0
  have c1 := hd.c1
  have h1 := hd.ok.s1
  have h2 := hd.ok.n2
  have h3 := hd.ok.s2
  have hq := tdiv_mul D.n D.size (by omega)
  have HD := Lib.hid hd
  clear hd
  go_enter Try.func91, Try.ntmps91
  go_wp2
  go_quiet (fail)
  go_wp2
  go_ret
  exact ⟨rfl, nq, rfl⟩

set_option maxHeartbeats 400000 in
theorem shape_any (w : World) (B b : Nat) (D : Dk) (M : DkM) (hd : DiskAt w B b D M) :
    Calls Try.prog 70 #[.pointer (some ⟨b, 0, none⟩)] w (RetQ (.tuple #[.int .i64 (D.n : Int), .int .i64 (D.size : Int)]) w) := by
  have c0 := hd.c0
  have HD := Lib.hid hd
  clear hd
  go_enter Try.func70, Try.ntmps70
  go_wp2
  go_quiet ((go_at_call 91; exact Calls.quiet_of (sectors_any _ B b D M (HD.out.drewN _))))
  go_wp2
  go_ret2
  exact ⟨rfl, nq, rfl⟩

/-- What disk.ready answers. -/
def readyZ (D : Dk) (k : Int) : Int := if D.dead then 10 else if k < 0 ∨ (D.n : Int) ≤ k then 11 else 0

set_option maxHeartbeats 400000 in
theorem ready_any (w : World) (B b : Nat) (D : Dk) (M : DkM) (k : Int) (hd : DiskAt w B b D M) :
    Calls Try.prog 77 #[.pointer (some ⟨b, 0, none⟩), .int .i64 k] w (RetQ (.int .i64 (readyZ D k)) w) := by
  have c5 := hd.c5
  have HD := Lib.hid hd
  clear hd
  by_cases hdead : D.dead = true
  · have HZ : Hid (readyZ D k = 10) := by show _ = _; rw [readyZ, if_pos hdead]
    rw [hdead] at c5
    have HX := Lib.hid hdead
    clear hdead
    rw [HZ.out]
    go_enter Try.func77, Try.ntmps77
    go_wp2
    go_ret
    exact ⟨rfl, 0, rfl⟩
  · have hdead' : D.dead = false := by simpa using hdead
    rw [hdead'] at c5
    have HX := Lib.hid hdead'
    clear hdead hdead'
    by_cases h1 : k < 0
    · have HZ : Hid (readyZ D k = 11) := by show _ = _; rw [readyZ, if_neg (by rw [HX.out]; decide), if_pos (.inl h1)]
      rw [HZ.out]
      go_enter Try.func77, Try.ntmps77
      go_wp2
      go_ret
      exact ⟨rfl, 0, rfl⟩
    · by_cases h2 : (D.n : Int) ≤ k
      · have HZ : Hid (readyZ D k = 11) := by show _ = _; rw [readyZ, if_neg (by rw [HX.out]; decide), if_pos (.inr h2)]
        rw [HZ.out]
        go_enter Try.func77, Try.ntmps77
        go_wp2_with (go_at_call 91; refine (sectors_any _ B b D M HD.out).mono ?_; rintro e w' ⟨rfl, nq, rfl⟩)
        go_ret
        exact ⟨rfl, nq, rfl⟩
      · have HZ : Hid (readyZ D k = 0) := by show _ = _; rw [readyZ, if_neg (by rw [HX.out]; decide), if_neg (by omega)]
        rw [HZ.out]
        go_enter Try.func77, Try.ntmps77
        go_wp2_with (go_at_call 91; refine (sectors_any _ B b D M HD.out).mono ?_; rintro e w' ⟨rfl, nq, rfl⟩)
        go_ret
        exact ⟨rfl, nq, rfl⟩

set_option maxHeartbeats 400000 in
theorem dead_any (w : World) (B b : Nat) (D : Dk) (M : DkM) (hd : DiskAt w B b D M) :
    Calls Try.prog 57 #[.pointer (some ⟨b, 0, none⟩)] w (RetW (.bool D.dead) w) := by
  have c5 := hd.c5
  clear hd
  go_enter Try.func57, Try.ntmps57
  go_wp2
  go_ret
  exact ⟨rfl, rfl⟩

set_option maxHeartbeats 400000 in
theorem image_any (w : World) (B b : Nat) (D : Dk) (M : DkM) (hd : DiskAt w B b D M) :
    Calls Try.prog 28 #[.pointer (some ⟨b, 0, none⟩)] w (RetW (.slice (some ⟨w.heap.size, 0, none⟩) (D.n * D.size) (D.n * D.size)) (w.alloc (.cells (D.dur.map bv).toArray 5))) := by
  have c1 := hd.c1
  have HR : Hid (RdB w (some ⟨M.gd, 0, none⟩) (D.n * D.size) D.dur) := by
    have h := hd.dur.rdB (off := 0) (n := D.n * D.size) (by rw [hd.ok.len]; omega)
    rw [List.drop_zero, List.take_of_length_le (by rw [hd.ok.len]; exact Nat.le_refl _)] at h
    exact h
  have HN : Hid (D.n * D.size ≤ 140737488355328) := by
    show _ ≤ _
    have := Nat.mul_le_mul hd.ok.n2 hd.ok.s2
    omega
  clear hd
  go_enter Try.func28, Try.ntmps28
  go_wp2_with (go_at_call 47; refine (clone_any _ _ _ D.dur _ HR.out HN.out).mono ?_; rintro e w' ⟨rfl, rfl⟩)
  go_ret
  exact ⟨rfl, rfl⟩

set_option maxHeartbeats 400000 in
theorem stats_any (w : World) (B b : Nat) (D : Dk) (M : DkM) (hd : DiskAt w B b D M) :
    Calls Try.prog 22 #[.pointer (some ⟨b, 0, none⟩)] w
      (RetW (.agg #[.int .i64 (wrap64 D.rd), .int .i64 (wrap64 D.wr), .int .i64 (wrap64 D.fl)]) (w.alloc (.cells #[.int .i64 (wrap64 D.rd), .int .i64 (wrap64 D.wr), .int .i64 (wrap64 D.fl)] 50))) := by
  have c6 := hd.c6
  have c7 := hd.c7
  have c8 := hd.c8
  have hlt := hd.blk.lt
  clear hd
  go_enter Try.func22, Try.ntmps22
  go_wp2
  exact bodyPost_ret (v := .agg #[.int .i64 (wrap64 D.rd), .int .i64 (wrap64 D.wr), .int .i64 (wrap64 D.fl)]) (by simp [results, Try.results22, go_sem]) rfl ⟨rfl, rfl⟩

/-- A fresh disk over bytes that lie in a block of their own. -/
theorem fresh_at {w W : World} {B gd n size : Nat} {dur : List UInt8} (hB : B ≤ w.heap.size) (hd : BlkB w gd dur) (hg : B ≤ gd) (h1 : 32 ≤ size) (h2 : size ≤ 1024) (h3 : 1 ≤ n) (h4 : n ≤ 16384) (hl : dur.length = n * size)
    (hW : ((w.alloc (.map #[] 0)).alloc (.cells #[.int .i64 (size : Int), .slice (some ⟨gd, 0, none⟩) (n * size) (n * size), .slice none 0 0, .map (some w.heap.size), .int .i64 (-1), .bool false, .int .i64 0, .int .i64 0, .int .i64 0] 110)) = W) :
    DiskAt W B (w.heap.size + 1) (freshDk size n dur) ⟨gd, w.heap.size, .slice none 0 0, []⟩ := by
  subst hW
  have hc : dkCells (freshDk size n dur) ⟨gd, w.heap.size, .slice none 0 0, []⟩ = #[.int .i64 (size : Int), .slice (some ⟨gd, 0, none⟩) (n * size) (n * size), .slice none 0 0, .map (some w.heap.size), .int .i64 (-1), .bool false, .int .i64 0, .int .i64 0, .int .i64 0] := by
    unfold dkCells freshDk
    simp only [wrap64_zero]
  refine ⟨⟨h1, h2, h3, h4, hl, by simp [freshDk], by simp [freshDk], by simp [freshDk], by simp [freshDk]⟩, ?_, (hd.alloc _).alloc _, World.ownsRow_nil _ _ _ _, rfl, by simp [freshDk], ?_, by simp, by omega, hg, hB, by simp⟩
  · have h := Blk.new (w.alloc (.map #[] 0)) 110 (dkCells (freshDk size n dur) ⟨gd, w.heap.size, .slice none 0 0, []⟩)
    rw [World.size_alloc] at h
    rw [hc] at h ⊢
    exact h
  · refine ((IMap.made w).keep ?_).congr fun x => (latest_nil x).symm
    exact Below.heap_alloc (w.alloc _) _ _ (by simp)

set_option maxRecDepth 100000 in
set_option maxHeartbeats 400000 in
theorem new_ok (n size : Nat) (w : World) (h1 : 32 ≤ size) (h2 : size ≤ 1024) (h3 : 1 ≤ n) (h4 : n ≤ 16384) :
    Calls Try.prog 12 #[.int .i64 (n : Int), .int .i64 (size : Int)] w (RetDisk w (freshDk size n (List.replicate (n * size) 0))) := by
  obtain ⟨i0, hi, hz0, hz1, hz2⟩ := info_parts infoU8
  have hm : n * size ≤ 16777216 := Nat.mul_le_mul h4 h2
  have H1 : Hid (1 * (n * size) ≤ 281474976710656) := by show 1 * (n * size) ≤ _; omega
  have H2 : Hid (n * size ≤ maxLen) := by show n * size ≤ _; unfold maxLen; omega
  have HW : Hid (wrap64 ((n : Int) * (size : Int)) = ((n * size : Nat) : Int)) := by show _ = _; rw [← Int.natCast_mul, wrap64_in (by omega) (by omega)]
  have HM := Lib.hid hm
  clear hm
  go_enter Try.func12, Try.ntmps12
  go_wp2_with (first
    | (go_at_call 41; refine (sizeFits_yes _ _ (by omega) (by omega)).mono ?_; rintro e w' ⟨rfl, rfl⟩)
    | (at_make; (refine wpList_make_row _ rfl (.tmp 19) (.tmp 19) 36 rfl 5 i0 (.int .u8 0) 1 Try.underlying36 hi hz0 hz1 hz2 rfl .i64 .i64 _ _ (n * size) rfl rfl HW.out HW.out H1.out H2.out ?_))
    | (go_at_call 42; refine (fresh_any _ _ _ _).mono ?_; rintro e w' ⟨rfl, hW⟩))
  go_ret2
  have hb := BlkB.zeros w (n * size)
  have hd := fresh_at (w := w.alloc (.cells (List.replicate (n * size) (Value.int .u8 0)).toArray 5)) (W := w') (B := w.heap.size) (gd := w.heap.size) (n := n) (size := size) (dur := List.replicate (n * size) 0)
    (by simp) (by rw [List.toArray_replicate]; exact hb) (Nat.le_refl _) h1 h2 h3 h4 (by simp) (by simpa using hW)
  rw [World.size_alloc] at hd
  refine ⟨_, _, rfl, hd, ?_⟩
  rw [← hW]
  exact (((Below.refl _ w).alloc (Nat.le_refl _) _).alloc (by simp) _).alloc (by simp; omega) _

/-- No disk: nil and a code. -/
def RetNo (w : World) (c : Int) (e : Ending) (w' : World) : Prop := e = .returned (.tuple #[.pointer none, .int .i64 c]) ∧ w = w'

set_option maxRecDepth 100000 in
set_option maxHeartbeats 400000 in
theorem new_bad (n size : Int) (w : World) (h : n < 1 ∨ 16384 < n ∨ size < 32 ∨ 1024 < size) :
    Calls Try.prog 12 #[.int .i64 n, .int .i64 size] w (RetNo w 1) := by
  by_cases h1 : n < 1
  · clear h
    go_enter Try.func12, Try.ntmps12
    go_wp2
    go_ret2
    exact ⟨rfl, rfl⟩
  · by_cases h2 : 16384 < n
    · clear h
      go_enter Try.func12, Try.ntmps12
      go_wp2
      go_ret2
      exact ⟨rfl, rfl⟩
    · have h3 : size < 32 ∨ 1024 < size := by omega
      clear h
      have H3 := Lib.hid h3
      clear h3
      go_enter Try.func12, Try.ntmps12
      go_wp2_with (go_at_call 41; refine (sizeFits_no _ _ H3.out).mono ?_; rintro e w' ⟨rfl, rfl⟩)
      go_ret2
      exact ⟨rfl, rfl⟩

theorem tmod_nat (a b : Nat) : ((a : Int)).tmod (b : Int) = ((a % b : Nat) : Int) := by rw [Int.tmod_eq_emod_of_nonneg (by omega)]; simp
theorem tdiv_nat (a b : Nat) : ((a : Int)).tdiv (b : Int) = ((a / b : Nat) : Int) := by rw [Int.tdiv_eq_ediv_of_nonneg (by omega)]; simp

set_option maxRecDepth 100000 in
set_option maxHeartbeats 400000 in
theorem image_size (A : Option Addr) (N c : Nat) (size : Int) (w : World) (h : size < 32 ∨ 1024 < size) :
    Calls Try.prog 17 #[.slice A N c, .int .i64 size] w (RetNo w 1) := by
  have H3 := Lib.hid h
  clear h
  go_enter Try.func17, Try.ntmps17
  go_wp2_with (go_at_call 41; refine (sizeFits_no _ _ H3.out).mono ?_; rintro e w' ⟨rfl, rfl⟩)
  go_ret2
  exact ⟨rfl, rfl⟩

set_option maxRecDepth 100000 in
set_option maxHeartbeats 400000 in
theorem image_len (A : Option Addr) (N c : Nat) (size : Nat) (w : World) (hN : N ≤ maxLen) (h1 : 32 ≤ size) (h2 : size ≤ 1024) (h : N = 0 ∨ N % size ≠ 0 ∨ 16384 < N / size) :
    Calls Try.prog 17 #[.slice A N c, .int .i64 (size : Int)] w (RetNo w 12) := by
  obtain ⟨r, hr⟩ : ∃ r, r = N % size := ⟨_, rfl⟩
  obtain ⟨q, hq⟩ : ∃ q, q = N / size := ⟨_, rfl⟩
  have hm1 : (N : Int).tmod (size : Int) = (r : Int) := by rw [tmod_nat, hr]
  have hm2 : (N : Int).tdiv (size : Int) = (q : Int) := by rw [tdiv_nat, hq]
  rw [← hr, ← hq] at h
  have hwq : wrap64 (q : Int) = (q : Int) := by
    have := Nat.div_le_self N size
    unfold maxLen at hN
    exact wrap64_in (by omega) (by omega)
  clear hr hq hN
  by_cases h0 : N = 0
  · subst h0
    clear h hm1 hm2 hwq
    go_enter Try.func17, Try.ntmps17
    go_wp2_with (go_at_call 41; refine (sizeFits_yes _ _ (by omega) (by omega)).mono ?_; rintro e w' ⟨rfl, rfl⟩)
    go_ret2
    exact ⟨rfl, rfl⟩
  · have hn0 : ((N : Int) == 0) = false := by simpa using h0
    by_cases h3 : r = 0
    · have h4 : 16384 < q := by omega
      subst h3
      clear h h0
      go_enter Try.func17, Try.ntmps17
      go_wp2_with (go_at_call 41; refine (sizeFits_yes _ _ (by omega) (by omega)).mono ?_; rintro e w' ⟨rfl, rfl⟩)
      go_ret2
      exact ⟨rfl, rfl⟩
    · have hz : ((r : Int) != 0) = true := by simpa using h3
      clear h h0 h3
      go_enter Try.func17, Try.ntmps17
      go_wp2_with (go_at_call 41; refine (sizeFits_yes _ _ (by omega) (by omega)).mono ?_; rintro e w' ⟨rfl, rfl⟩)
      go_ret2
      exact ⟨rfl, rfl⟩

set_option maxRecDepth 100000 in
set_option maxHeartbeats 400000 in
theorem image_ok (A : Option Addr) (c n size : Nat) (bs : List UInt8) (w : World) (hr : RdB w A (n * size) bs) (h1 : 32 ≤ size) (h2 : size ≤ 1024) (h3 : 1 ≤ n) (h4 : n ≤ 16384) :
    Calls Try.prog 17 #[.slice A (n * size) c, .int .i64 (size : Int)] w (RetDisk w (freshDk size n bs)) := by
  have HL : Hid (bs.length = n * size) := hr.blen
  have HN : Hid (n * size ≤ 140737488355328) := by show _ ≤ _; have := Nat.mul_le_mul h4 h2; omega
  have hpos : 0 < n * size := Nat.mul_pos (by omega) (by omega)
  obtain ⟨N, hN⟩ : ∃ N, N = n * size := ⟨_, rfl⟩
  have hm1 : (N : Int).tmod (size : Int) = 0 := by rw [tmod_nat, hN, Nat.mul_mod_left]; rfl
  have hm2 : (N : Int).tdiv (size : Int) = (n : Int) := by rw [tdiv_nat, hN, Nat.mul_div_cancel _ (by omega)]
  rw [← hN] at hr HN hpos ⊢
  have hn0 : ((N : Int) == 0) = false := by simp; omega
  have HR := Lib.hid hr
  have HNd := Lib.hid hN
  clear hr hN
  go_enter Try.func17, Try.ntmps17
  go_wp2_with (first
    | (go_at_call 41; refine (sizeFits_yes _ _ (by omega) (by omega)).mono ?_; rintro e w' ⟨rfl, rfl⟩)
    | (go_at_call 47; refine (clone_any _ _ _ bs _ HR.out HN.out).mono ?_; rintro e w1 ⟨rfl, hW1⟩; replace hW1 := Lib.hid hW1)
    | (go_at_call 42; refine (fresh_any _ _ _ _).mono ?_; rintro e w2 ⟨rfl, hW⟩))
  go_ret2
  have hsz : w1.heap.size = w.heap.size + 1 := by rw [← hW1.out, World.size_alloc]
  have hb : BlkB w1 w.heap.size bs := by rw [← hW1.out]; exact Blk.new _ _ _
  rw [HNd.out] at hW
  have hd := fresh_at (w := w1) (W := w2) (B := w.heap.size) (gd := w.heap.size) (n := n) (size := size) (dur := bs)
    (by omega) hb (Nat.le_refl _) h1 h2 h3 h4 HL.out hW
  refine ⟨_, _, rfl, hd, ?_⟩
  rw [← hW, ← hW1.out]
  exact (((Below.refl _ w).alloc (Nat.le_refl _) _).alloc (by simp) _).alloc (by simp; omega) _
end Go.Proofs.Ytenommboacjopaa
