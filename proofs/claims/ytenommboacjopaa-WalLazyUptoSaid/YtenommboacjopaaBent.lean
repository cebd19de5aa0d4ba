/- arborlaw5.Lay's bent by its contract. -/
import Derived.Test.YtenommboacjopaaWal3
import Derived.Test.YtenommboacjopaaCopy
namespace Go.Proofs.Ytenommboacjopaa
open Go.RowKit

/-- x bent into the numbers below m. -/
def bendN (x : Int) (m : Nat) : Nat := ((x.tmod (m : Int) + (m : Int)).tmod (m : Int)).toNat
theorem bend_lt {x : Int} {m : Nat} (hm : 0 < m) : bendN x m < m ∧ (x.tmod (m : Int) + (m : Int)).tmod (m : Int) = (bendN x m : Int) ∧ -(m : Int) < x.tmod (m : Int) ∧ x.tmod (m : Int) < (m : Int) := by
  have h1 : x.tmod (m : Int) < (m : Int) := Int.tmod_lt_of_pos _ (by omega)
  have h2 : -(m : Int) < x.tmod (m : Int) := Int.lt_tmod_of_pos _ (by omega)
  have h3 : 0 ≤ (x.tmod (m : Int) + (m : Int)).tmod (m : Int) := Int.tmod_nonneg _ (by omega)
  have h4 : (x.tmod (m : Int) + (m : Int)).tmod (m : Int) < (m : Int) := Int.tmod_lt_of_pos _ (by omega)
  unfold bendN
  omega
/-- A lay's measures. -/
structure Lay where
  s : Int
  f : Int
  c : Int
  b : Int
  ep : Nat
def Lay.size (y : Lay) : Nat := 32 + bendN y.s 993
def Lay.first (y : Lay) : Nat := bendN y.f 20
def Lay.count (y : Lay) : Nat := 1 + bendN y.c 64
def Lay.beyond (y : Lay) : Nat := bendN y.b 3
def Lay.n (y : Lay) : Nat := y.first + y.count + y.beyond
def layV (y : Lay) : Value := .agg #[.int .i64 y.s, .int .i64 y.f, .int .i64 y.c, .int .i64 y.b, .int .u64 (y.ep : Int)]
theorem Lay.ok (y : Lay) : 32 ≤ y.size ∧ y.size ≤ 1024 ∧ y.first ≤ 19 ∧ 1 ≤ y.count ∧ y.count ≤ 64 ∧ y.first + y.count ≤ y.n ∧ y.n ≤ 85 ∧ 1 ≤ y.n := by
  have h1 := (bend_lt (x := y.s) (m := 993) (by omega)).1
  have h2 := (bend_lt (x := y.f) (m := 20) (by omega)).1
  have h3 := (bend_lt (x := y.c) (m := 64) (by omega)).1
  have h4 := (bend_lt (x := y.b) (m := 3) (by omega)).1
  unfold Lay.n Lay.size Lay.first Lay.count Lay.beyond
  omega
/-- Four numbers; nothing that lay is turned. -/
def RetBent (y : Lay) (w : World) (e : Ending) (w' : World) : Prop := e = .returned (.tuple #[.int .i64 (y.n : Int), .int .i64 (y.size : Int), .int .i64 (y.first : Int), .int .i64 (y.count : Int)]) ∧ Below w.heap.size w w'

theorem bend_wrap (x : Int) (m : Nat) (hm : 0 < m) (h : m ≤ 1000) : wrap64 (x.tmod (m : Int) + (m : Int)) = x.tmod (m : Int) + (m : Int) := by
  obtain ⟨_, _, h3, h4⟩ := bend_lt (x := x) hm
  exact wrap64_in (by omega) (by omega)
theorem lay_nums (y : Lay) : wrap64 (32 + (bendN y.s 993 : Int)) = (y.size : Int) ∧ wrap64 (1 + (bendN y.c 64 : Int)) = (y.count : Int) ∧ wrap64 ((bendN y.f 20 : Int) + (y.count : Int)) = (bendN y.f 20 : Int) + (y.count : Int) ∧ wrap64 ((bendN y.f 20 : Int) + (y.count : Int) + (bendN y.b 3 : Int)) = (y.n : Int) := by
  have h1 := (bend_lt (x := y.s) (m := 993) (by omega)).1
  have h2 := (bend_lt (x := y.f) (m := 20) (by omega)).1
  have h3 := (bend_lt (x := y.c) (m := 64) (by omega)).1
  have h4 := (bend_lt (x := y.b) (m := 3) (by omega)).1
  have h5 : y.count = 1 + bendN y.c 64 := rfl
  have h6 : y.size = 32 + bendN y.s 993 := rfl
  have h7 : y.n = bendN y.f 20 + y.count + bendN y.b 3 := rfl
  refine ⟨?_, ?_, ?_, ?_⟩ <;> rw [wrap64_in (by omega) (by omega)] <;> omega
theorem layN (y : Lay) :
    wrap64 (32 + (wrap64 (y.s.tmod 993 + 993)).tmod 993) = (y.size : Int) ∧ (wrap64 (y.f.tmod 20 + 20)).tmod 20 = (y.first : Int) ∧ wrap64 (1 + (wrap64 (y.c.tmod 64 + 64)).tmod 64) = (y.count : Int) ∧
    wrap64 (wrap64 ((wrap64 (y.f.tmod 20 + 20)).tmod 20 + wrap64 (1 + (wrap64 (y.c.tmod 64 + 64)).tmod 64)) + (wrap64 (y.b.tmod 3 + 3)).tmod 3) = (y.n : Int) := by
  have a5 : (y.s.tmod 993 + 993).tmod 993 = (bendN y.s 993 : Int) := (bend_lt (x := y.s) (m := 993) (by omega)).2.1
  have b5 : (y.f.tmod 20 + 20).tmod 20 = (bendN y.f 20 : Int) := (bend_lt (x := y.f) (m := 20) (by omega)).2.1
  have c5 : (y.c.tmod 64 + 64).tmod 64 = (bendN y.c 64 : Int) := (bend_lt (x := y.c) (m := 64) (by omega)).2.1
  have d5 : (y.b.tmod 3 + 3).tmod 3 = (bendN y.b 3 : Int) := (bend_lt (x := y.b) (m := 3) (by omega)).2.1
  have a6 : wrap64 (y.s.tmod 993 + 993) = y.s.tmod 993 + 993 := bend_wrap y.s 993 (by omega) (by omega)
  have b6 : wrap64 (y.f.tmod 20 + 20) = y.f.tmod 20 + 20 := bend_wrap y.f 20 (by omega) (by omega)
  have c6 : wrap64 (y.c.tmod 64 + 64) = y.c.tmod 64 + 64 := bend_wrap y.c 64 (by omega) (by omega)
  have d6 : wrap64 (y.b.tmod 3 + 3) = y.b.tmod 3 + 3 := bend_wrap y.b 3 (by omega) (by omega)
  obtain ⟨h1, h2, h3, h4⟩ := lay_nums y
  rw [a6, b6, c6, d6, a5, b5, c5, d5, h1, h2, h3, h4]
  exact ⟨rfl, rfl, rfl, rfl⟩

set_option maxHeartbeats 800000 in
theorem bent_any (y : Lay) (w : World) : Calls Try.prog 11 #[layV y] w (RetBent y w) := by
  obtain ⟨h1, h2, h3, h4⟩ := layN y
  have H1 := Lib.hid h1
  have H2 := Lib.hid h2
  have H3 := Lib.hid h3
  have H4 := Lib.hid h4
  clear h1 h2 h3 h4
  unfold layV
  go_enter Try.func11, Try.ntmps11
  go_wp2
  refine bodyPost_ret (v := .tuple #[.int .i64 (y.n : Int), .int .i64 (y.size : Int), .int .i64 (y.first : Int), .int .i64 (y.count : Int)]) ?_ rfl ⟨rfl, (Below.refl _ w).alloc (Nat.le_refl _) _⟩
  rw [H4.out, H1.out, H2.out, H3.out]
  simp [results, Try.results11, go_sem]
end Go.Proofs.Ytenommboacjopaa
