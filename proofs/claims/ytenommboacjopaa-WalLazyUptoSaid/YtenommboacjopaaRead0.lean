/- What a log's reader does: plain. And how it lies in memory. -/
import Derived.Test.YtenommboacjopaaMid
import Derived.Test.YtenommboacjopaaStream2
namespace Go.Proofs.Ytenommboacjopaa
open Go.RowKit

/-- A reader: how many sectors were read, may there be one more, the stream so far. -/
structure Rst where
  reads : Nat
  more : Bool
  all : List UInt8
/-- The piece that a sector's bytes hold, if it belongs to the place k of an epoch. -/
def pieceO (epoch k : Nat) (s : List UInt8) : Option (List UInt8) :=
  match openB s with
  | some (kind, gen, body) => if kind = 87 ∧ gen = epoch ∧ 2 ≤ body.length ∧ leN (body.take 2) = k then some (body.drop 2) else none
  | none => none
/-- One more sector. -/
def rd1 (sec : Nat → List UInt8) (count room epoch : Nat) (R : Rst) : Rst :=
  if count ≤ R.reads then { R with more := false }
  else match pieceO epoch R.reads (sec R.reads) with
    | some p => ⟨R.reads + 1, decide (p.length = room), R.all ++ p⟩
    | none => ⟨R.reads + 1, false, R.all⟩
def secOf (D : Dk) (first j : Nat) : List UInt8 := D.holds (first + j)
theorem secOf_rd (D : Dk) (first n : Nat) : secOf { D with rd := n } first = secOf D first := rfl

theorem openB_body {bs : List UInt8} {k : UInt8} {g : Nat} {b : List UInt8} (h : openB bs = some (k, g, b)) : b.length + 15 ≤ bs.length := by
  unfold openB at h
  split at h
  · cases h
  · split at h
    · cases h
    · split at h
      · cases h
      · split at h
        · cases h
        · injection h with h
          injection h with h1 h
          injection h with h2 h
          subst h
          rw [List.length_take, List.length_drop]
          omega
theorem pieceO_len {epoch k : Nat} {s p : List UInt8} (h : pieceO epoch k s = some p) : p.length + 17 ≤ s.length := by
  unfold pieceO at h
  split at h
  · rename_i kind gen body ho
    split at h
    · rename_i hc
      injection h with h
      have := openB_body ho
      subst h
      rw [List.length_drop]
      omega
    · cases h
  · cases h

def rdCells (b first count room epoch : Nat) (R : Rst) (hv : Value) : Array Value :=
  #[.pointer (some ⟨b, 0, none⟩), .int .i64 (first : Int), .int .i64 (count : Int), .int .i64 (room : Int), .int .u64 (epoch : Int), .int .i64 (R.reads : Int), .bool R.more, hv, .int .i64 0]
/-- A reader lies at rb, on the disk at b; what it holds and has not given lies beyond Br; at_ bytes were given. -/
structure ReadAt (w : World) (Bd b Br rb first count room epoch : Nat) (D : Dk) (M : DkM) (R : Rst) (at_ : Nat) (hv : Value) : Prop where
  dk : DiskAt w Bd b D M
  alive : D.dead = false
  fits : first + count ≤ D.n
  size : room + 17 = D.size
  c64 : count ≤ 64
  foot : ∀ k, M.foot b k → k < Br
  blk : Blk w rb 131 (rdCells b first count room epoch R hv)
  rbB : Br ≤ rb
  row : MidB w Br hv (R.all.drop at_)
  le : at_ ≤ R.all.length
  reads : R.reads ≤ count
  len : R.all.length ≤ R.reads * room
/-- What a call turns that uses the reader. -/
def rdFoot (b rb : Nat) (hv : Value) (k : Nat) : Prop := k = b ∨ k = rb ∨ blkOf hv = some k

section
variable {w w' : World} {Bd b Br rb first count room epoch at_ : Nat} {D : Dk} {M : DkM} {R : Rst} {hv : Value}
theorem ReadAt.ne_b (h : ReadAt w Bd b Br rb first count room epoch D M R at_ hv) : rb ≠ b := by
  have h1 := h.foot b (.inl rfl)
  have h2 := h.rbB
  omega
theorem ReadAt.ne_row (h : ReadAt w Bd b Br rb first count room epoch D M R at_ hv) : ∀ g, blkOf hv = some g → g ≠ rb ∧ g ≠ b ∧ ¬ M.foot b g := by
  intro g hg
  obtain ⟨cs, hb⟩ := h.row.blk g hg
  have hl := (h.row.lt g hg).1
  refine ⟨hb.ne_ h.blk (by decide), fun e => ?_, fun e => ?_⟩
  · have h1 := h.foot b (.inl rfl)
    omega
  · have h1 := h.foot g e
    omega
theorem ReadAt.keep {F : Nat → Prop} (h : ReadAt w Bd b Br rb first count room epoch D M R at_ hv) (ho : Only F w w') (h1 : ∀ k, M.foot b k → ¬ F k) (h2 : ¬ F rb) (h3 : ∀ g, blkOf hv = some g → ¬ F g) : ReadAt w' Bd b Br rb first count room epoch D M R at_ hv :=
  ⟨h.dk.only ho h1, h.alive, h.fits, h.size, h.c64, h.foot, h.blk.only ho h2, h.rbB, h.row.only ho h3, h.le, h.reads, h.len⟩
theorem ReadAt.below (h : ReadAt w Bd b Br rb first count room epoch D M R at_ hv) (hb : Below w.heap.size w w') : ReadAt w' Bd b Br rb first count room epoch D M R at_ hv :=
  ⟨h.dk.below hb, h.alive, h.fits, h.size, h.c64, h.foot, h.blk.below hb h.blk.lt, h.rbB, h.row.below hb, h.le, h.reads, h.len⟩
theorem ReadAt.n2 (h : ReadAt w Bd b Br rb first count room epoch D M R at_ hv) : D.n ≤ 16384 ∧ D.size ≤ 1024 ∧ room ≤ 1007 ∧ R.all.length ≤ 64448 := by
  have h1 := h.dk.ok.n2
  have h2 := h.dk.ok.s2
  have h3 := h.size
  have h4 : R.reads * room ≤ 64 * 1007 := Nat.mul_le_mul (by have := h.reads; have := h.c64; omega) (by omega)
  have h5 := h.len
  omega
end

/-- A call on a reader that brings it to R', at_'. -/
def RdPost (Bd b Br rb first count room epoch : Nat) (D : Dk) (M : DkM) (R : Rst) (hv : Value) (R' : Rst) (at_' : Nat) (w w' : World) : Prop :=
  ∃ hv', ReadAt w' Bd b Br rb first count room epoch { D with rd := D.rd + (R'.reads - R.reads) } M R' at_' hv' ∧ Only (rdFoot b rb hv) w w' ∧ ∀ g, blkOf hv' = some g → blkOf hv = some g ∨ w.heap.size ≤ g
end Go.Proofs.Ytenommboacjopaa
