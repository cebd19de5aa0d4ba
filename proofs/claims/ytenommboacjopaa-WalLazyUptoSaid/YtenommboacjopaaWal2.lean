/- (*wal.Log).Append by its contract. -/
import Derived.Test.YtenommboacjopaaWal1
namespace Go.Proofs.Ytenommboacjopaa
open Go.RowKit

/-- What Append does with the disk: the disk behind it, the answer, the log's sector and tail. -/
def app (first epoch room : Nat) (D : Dk) (at_ : Nat) (tail entry : List UInt8) : Dk × Int × Nat × List UInt8 :=
  if entry = [] ∨ room ≤ tail.length then (D, 0, at_, tail)
  else if D.putZ ≠ 0 then (D.put (first + at_) (lSec D.size epoch at_ (tail ++ entry.take (min entry.length (room - tail.length)))), D.putZ, at_, tail ++ entry.take (min entry.length (room - tail.length)))
  else if (tail ++ entry.take (min entry.length (room - tail.length))).length = room then
    app first epoch room (D.put (first + at_) (lSec D.size epoch at_ (tail ++ entry.take (min entry.length (room - tail.length))))) (at_ + 1) [] (entry.drop (min entry.length (room - tail.length)))
  else app first epoch room (D.put (first + at_) (lSec D.size epoch at_ (tail ++ entry.take (min entry.length (room - tail.length))))) at_ (tail ++ entry.take (min entry.length (room - tail.length))) (entry.drop (min entry.length (room - tail.length)))
  termination_by entry.length
  decreasing_by
  all_goals (
    rename_i h _ _
    have h1 : 0 < entry.length := List.length_pos_iff.2 (fun e => h (.inl e))
    have _h2 : ¬ room ≤ tail.length := fun e => h (.inr e)
    simp only [List.length_drop]
    omega)

/-- The blocks of the log's tail are none of the disk's. -/
def Sep (M : DkM) (b : Nat) (tv : Value) : Prop := ∀ g, tv.ownBlock = some g → ¬ M.foot b g

theorem append_bad (w : World) (l : Nat) (A : Option Addr) (n c : Nat) (h : n < 1 ∨ 1024 < n) :
    Calls Try.prog 14 #[.pointer (some ⟨l, 0, none⟩), .slice A n c] w (RetQ (.int .i64 51) w) := by
  go_enter Try.func14, Try.ntmps14
  rcases h with h | h
  · go_wp2
    go_ret
    exact ⟨rfl, 0, rfl⟩
  · go_wp2
    go_ret
    exact ⟨rfl, 0, rfl⟩

theorem append_full (w : World) (B l b : Nat) (L : Lg) (tv : Value) (A : Option Addr) (n c : Nat) (hl : LogAt w B l b L tv) (h1 : 1 ≤ n) (h2 : n ≤ 1024) (h : L.restN < 2 + n) :
    Calls Try.prog 14 #[.pointer (some ⟨l, 0, none⟩), .slice A n c] w (RetQ (.int .i64 50) w) := by
  have HL := Lib.hid hl
  clear hl
  go_enter Try.func14, Try.ntmps14
  go_wp2_with (go_at_call 44; refine (rest_any _ B l b L tv HL.out).mono ?_; rintro e w' ⟨rfl, nq, rfl⟩)
  go_ret
  exact ⟨rfl, nq, rfl⟩
end Go.Proofs.Ytenommboacjopaa
