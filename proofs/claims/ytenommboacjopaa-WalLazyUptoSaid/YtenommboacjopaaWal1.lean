/- wal.Start, (*wal.Log).rest, Left and Count by their contracts. -/
import Derived.Test.YtenommboacjopaaWal0
namespace Go.Proofs.Ytenommboacjopaa
open Go.RowKit

/-- A log's state. -/
structure Lg where
  first : Nat
  count : Nat
  room : Nat
  epoch : Nat
  at_ : Nat
  tail : List UInt8
  cnt : Nat
structure LgOk (L : Lg) : Prop where
  f : L.first ≤ 16384
  c : L.count ≤ 64
  r1 : 15 ≤ L.room
  r2 : L.room ≤ 1007
  a : L.at_ ≤ L.count
  t : L.tail.length < L.room
  ft : L.at_ = L.count → L.tail = []
def lgCells (b : Nat) (L : Lg) (tv : Value) : Array Value :=
  #[.pointer (some ⟨b, 0, none⟩), .int .i64 (L.first : Int), .int .i64 (L.count : Int), .int .i64 (L.room : Int), .int .u64 (L.epoch : Int), .int .i64 (L.at_ : Int), tv, .int .i64 (wrap64 (L.cnt : Int))]
/-- A log lies at l, on the disk at b. -/
structure LogAt (w : World) (B l b : Nat) (L : Lg) (tv : Value) : Prop where
  ok : LgOk L
  blk : Blk w l 99 (lgCells b L tv)
  row : w.ownsRow B 5 1 tv L.tail.length (L.tail.map bv)
  Bl : B ≤ l
def Lg.restN (L : Lg) : Nat := (L.count - L.at_) * L.room - L.tail.length
def Lg.used (L : Lg) : Nat := L.at_ * L.room + L.tail.length

section
variable {w w' : World} {B l b : Nat} {L : Lg} {tv : Value}
theorem LogAt.keep (h : LogAt w B l b L tv) (h1 : w'.heap[l]? = w.heap[l]?) (h2 : ∀ g, tv.ownBlock = some g → w'.heap[g]? = w.heap[g]?) : LogAt w' B l b L tv := by
  refine ⟨h.ok, h1.trans h.blk, ⟨h.row.1, ?_⟩, h.Bl⟩
  rcases h.row.2 with h0 | ⟨g, cap, cur, hv, hg1, hg2, r⟩
  · exact .inl h0
  · exact .inr ⟨g, cap, cur, hv, hg1, (h2 g (by rw [hv]; rfl)).trans hg2, r⟩
theorem LogAt.only {F : Nat → Prop} (h : LogAt w B l b L tv) (ho : Only F w w') (h1 : ¬ F l) (h2 : ∀ g, tv.ownBlock = some g → ¬ F g) : LogAt w' B l b L tv :=
  h.keep (ho.block l h.blk.lt h1) fun g hg => ho.block g (h.row.lt g hg).2 (h2 g hg)
theorem LogAt.below (h : LogAt w B l b L tv) (hb : Below w.heap.size w w') : LogAt w' B l b L tv :=
  h.keep (hb.block l h.blk.lt) fun g hg => hb.block g (h.row.lt g hg).2
theorem LogAt.c0 (h : LogAt w B l b L tv) : w.cell? ⟨l, 0, none⟩ = some (.pointer (some ⟨b, 0, none⟩)) := h.blk.at_ 0 rfl
theorem LogAt.c1 (h : LogAt w B l b L tv) : w.cell? ⟨l, 1, none⟩ = some (.int .i64 (L.first : Int)) := h.blk.at_ 1 rfl
theorem LogAt.c2 (h : LogAt w B l b L tv) : w.cell? ⟨l, 2, none⟩ = some (.int .i64 (L.count : Int)) := h.blk.at_ 2 rfl
theorem LogAt.c3 (h : LogAt w B l b L tv) : w.cell? ⟨l, 3, none⟩ = some (.int .i64 (L.room : Int)) := h.blk.at_ 3 rfl
theorem LogAt.c4 (h : LogAt w B l b L tv) : w.cell? ⟨l, 4, none⟩ = some (.int .u64 (L.epoch : Int)) := h.blk.at_ 4 rfl
theorem LogAt.c5 (h : LogAt w B l b L tv) : w.cell? ⟨l, 5, none⟩ = some (.int .i64 (L.at_ : Int)) := h.blk.at_ 5 rfl
theorem LogAt.c6 (h : LogAt w B l b L tv) : w.cell? ⟨l, 6, none⟩ = some tv := h.blk.at_ 6 rfl
theorem LogAt.c7 (h : LogAt w B l b L tv) : w.cell? ⟨l, 7, none⟩ = some (.int .i64 (wrap64 (L.cnt : Int))) := h.blk.at_ 7 rfl
theorem LogAt.drewN (h : LogAt w B l b L tv) (n : Nat) : LogAt (w.drewN n) B l b L tv := h.keep rfl fun _ _ => rfl
theorem LogAt.base {B' : Nat} (h : LogAt w B l b L tv) (hB : B' ≤ B) : LogAt w B' l b L tv := ⟨h.ok, h.blk, ownsRow_base h.row hB, Nat.le_trans hB h.Bl⟩
end

theorem lg_nums {L : Lg} (h : LgOk L) : ∃ x : Nat, ((L.count : Int) - (L.at_ : Int)) * (L.room : Int) = (x : Int) ∧ x ≤ 64448 ∧ L.tail.length ≤ x ∧ L.restN = x - L.tail.length ∧ (L.count : Int) - (L.at_ : Int) = ((L.count - L.at_ : Nat) : Int) := by
  have h1 := h.a
  have h2 : (L.count - L.at_) * L.room ≤ 64 * 1007 := Nat.mul_le_mul (by have := h.c; omega) h.r2
  have e : (L.count : Int) - (L.at_ : Int) = ((L.count - L.at_ : Nat) : Int) := by omega
  refine ⟨(L.count - L.at_) * L.room, by rw [e, ← Int.natCast_mul], by omega, ?_, rfl, e⟩
  rcases Nat.lt_or_ge L.at_ L.count with hlt | hge
  · have h3 := h.t
    have : 1 * L.room ≤ (L.count - L.at_) * L.room := Nat.mul_le_mul_right _ (by omega)
    omega
  · have : L.tail = [] := h.ft (by omega)
    rw [this]; simp

set_option maxHeartbeats 400000 in
theorem rest_any (w : World) (B l b : Nat) (L : Lg) (tv : Value) (hl : LogAt w B l b L tv) :
    Calls Try.prog 44 #[.pointer (some ⟨l, 0, none⟩)] w (RetQ (.int .i64 (L.restN : Int)) w) := by
  obtain ⟨x, hx, hx1, hx2, hx3, hx4⟩ := lg_nums hl.ok
  have c2 := hl.c2
  have c3 := hl.c3
  have c5 := hl.c5
  have c6 := hl.c6
  obtain ⟨A, c, rfl⟩ := own_slice hl.row
  have w1 : IntKind.i64.wrap ((L.count : Int) - (L.at_ : Int)) = (L.count : Int) - (L.at_ : Int) := by have := hl.ok.c; have := hl.ok.a; exact wrapi (by omega) (by omega)
  have w2 : IntKind.i64.wrap ((x : Int)) = (x : Int) := wrapi (by omega) (by omega)
  have w3 : IntKind.i64.wrap ((x : Int) - (L.tail.length : Int)) = (x : Int) - (L.tail.length : Int) := wrapi (by omega) (by omega)
  have HX3 : Hid ((L.restN : Int) = (x : Int) - (L.tail.length : Int)) := by show _ = _; omega
  have HL := Lib.hid hl
  clear hl hx1 hx2 hx3 hx4
  go_enter Try.func44, Try.ntmps44
  go_wp2
  go_quiet (fail)
  go_wp2
  go_ret
  exact ⟨by rw [HX3.out]; rfl, nq, rfl⟩

set_option maxHeartbeats 400000 in
theorem left_any (w : World) (B l b : Nat) (L : Lg) (tv : Value) (hl : LogAt w B l b L tv) :
    Calls Try.prog 16 #[.pointer (some ⟨l, 0, none⟩)] w (RetQ (.int .i64 ((min 1024 (L.restN - 2) : Nat) : Int)) w) := by
  have HL := Lib.hid hl
  have hx : L.restN ≤ 64448 := by
    obtain ⟨x, hx, hx1, hx2, hx3, hx4⟩ := lg_nums hl.ok
    omega
  clear hl
  go_enter Try.func16, Try.ntmps16
  go_wp2_with (go_at_call 44; refine (rest_any _ B l b L tv HL.out).mono ?_; rintro e w' ⟨rfl, nq, rfl⟩)
  all_goals (go_ret; refine ⟨?_, nq, rfl⟩; rename_i ha; show Ending.returned (Value.int _ _) = _; congr 2; (try split at ha) <;> omega)

theorem count_any (w : World) (B l b : Nat) (L : Lg) (tv : Value) (hl : LogAt w B l b L tv) :
    Calls Try.prog 30 #[.pointer (some ⟨l, 0, none⟩)] w (RetQ (.int .i64 (wrap64 (L.cnt : Int))) w) := by
  have c7 := hl.c7
  have HL := Lib.hid hl
  clear hl
  go_enter Try.func30, Try.ntmps30
  go_wp2
  go_ret
  exact ⟨rfl, 0, rfl⟩

/-- A place is handed back, and yes; nothing that lay is turned. -/
def RetLay (v : Value) (ok : Bool) (w : World) (e : Ending) (w' : World) : Prop := e = .returned (.tuple #[v, .bool ok]) ∧ Below w.heap.size w w'

set_option maxHeartbeats 800000 in
theorem lay_ok (w : World) (B b : Nat) (D : Dk) (M : DkM) (first count epoch : Nat) (hd : DiskAt w B b D M) (h1 : 1 ≤ count) (h2 : count ≤ 64) (h3 : first + count ≤ D.n) :
    Calls Try.prog 43 #[.pointer (some ⟨b, 0, none⟩), .int .i64 (first : Int), .int .i64 (count : Int), .int .u64 (epoch : Int)] w (RetLay (placeV b first count (D.size - 17) epoch) true w) := by
  have hn := hd.ok.n2
  have hs1 := hd.ok.s1
  have hs2 := hd.ok.s2
  have HZ : Hid (roomZ (D.size : Int) = (D.size : Int) - 15) := by show _ = _; rw [roomZ, if_pos (by omega)]
  have HP : Hid ((((D.size - 17 : Nat)) : Int) = (D.size : Int) - 15 - 2) := by show _ = _; omega
  have HD := Lib.hid hd
  clear hd
  go_enter Try.func43, Try.ntmps43
  go_wp2_with (first
    | (go_at_call 70; refine (shape_any _ B b D M (HD.out.below ((Below.refl _ _).alloc (Nat.le_refl _) _))).mono ?_; rintro e w' ⟨rfl, nq, rfl⟩)
    | (go_at_call 71; refine (room_any _ _ (by omega)).mono ?_; rw [HZ.out]; rintro e w' ⟨rfl, rfl⟩))
  refine bodyPost_ret (v := .tuple #[placeV b first count (D.size - 17) epoch, .bool true]) (by simp [results, Try.results43, go_sem, placeV, HP.out]) rfl ⟨rfl, ?_⟩
  exact (((((below_drewN ((Below.refl _ w).alloc (Nat.le_refl _) _) _).setCell (p := ⟨w.heap.size, 0, none⟩) (Nat.le_refl _) _).setCell (p := ⟨w.heap.size, 1, none⟩) (Nat.le_refl _) _).setCell (p := ⟨w.heap.size, 2, none⟩) (Nat.le_refl _) _).setCell (p := ⟨w.heap.size, 3, none⟩) (Nat.le_refl _) _).setCell (p := ⟨w.heap.size, 4, none⟩) (Nat.le_refl _) _

/-- A log is handed back (ahead of OK), new; nothing that lay is turned. -/
def RetLog (w : World) (b : Nat) (L : Lg) (e : Ending) (w' : World) : Prop :=
  ∃ l, e = .returned (.tuple #[.pointer (some ⟨l, 0, none⟩), .int .i64 0]) ∧ LogAt w' w.heap.size l b L (.slice none 0 0) ∧ Below w.heap.size w w'
def freshLg (first count room epoch : Nat) : Lg := { first, count, room, epoch, at_ := 0, tail := [], cnt := 0 }

set_option maxHeartbeats 800000 in
theorem start_ok (w : World) (B b : Nat) (D : Dk) (M : DkM) (first count epoch : Nat) (hd : DiskAt w B b D M) (h1 : 1 ≤ count) (h2 : count ≤ 64) (h3 : first + count ≤ D.n) :
    Calls Try.prog 13 #[.pointer (some ⟨b, 0, none⟩), .int .i64 (first : Int), .int .i64 (count : Int), .int .u64 (epoch : Int)] w (RetLog w b (freshLg first count (D.size - 17) epoch)) := by
  have hn := hd.ok.n2
  have hs1 := hd.ok.s1
  have hs2 := hd.ok.s2
  have HK : Hid (LgOk (freshLg first count (D.size - 17) epoch)) := ⟨by show first ≤ _; omega, h2, by show 15 ≤ D.size - 17; omega, by show D.size - 17 ≤ _; omega, Nat.zero_le _, by show 0 < D.size - 17; omega, fun _ => rfl⟩
  have HD := Lib.hid hd
  clear hd
  go_enter Try.func13, Try.ntmps13
  go_wp2_with (go_at_call 43; refine (lay_ok _ B b D M first count epoch HD.out h1 h2 h3).mono ?_; unfold placeV; rintro e w' ⟨rfl, hb⟩; have HB := Lib.hid hb; clear hb)
  go_ret2
  have hsz := HB.out.size
  refine ⟨w'.heap.size + 1, rfl, ⟨HK.out, ?_, World.ownsRow_nil _ _ _ _, by omega⟩, (HB.out.alloc hsz _).alloc (by simp; omega) _⟩
  have h := Blk.new (w'.alloc (Obj.cells #[Value.pointer (some { block := b, off := 0 }), Value.int IntKind.i64 ↑first, Value.int IntKind.i64 ↑count, Value.int IntKind.i64 ↑(D.size - 17), Value.int IntKind.u64 ↑epoch] 95)) 99 (lgCells b (freshLg first count (D.size - 17) epoch) (.slice none 0 0))
  rw [World.size_alloc] at h
  simp only [lgCells, freshLg, wrap64_zero] at h ⊢
  exact h
end Go.Proofs.Ytenommboacjopaa
