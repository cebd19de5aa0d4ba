/- frame.put, frame.get by their contracts. -/
import Derived.Test.YtenommboacjopaaSum
import Derived.Laws.ShiftsVarLaws
namespace Go.Proofs.Ytenommboacjopaa
open Go.RowKit

/-- A block of bytes. -/
abbrev BlkB (w : World) (g : Nat) (bs : List UInt8) : Prop := Blk w g 5 (bs.map bv).toArray
theorem Blk.bcell {w : World} {g : Nat} {bs : List UInt8} (h : BlkB w g bs) {i : Nat} (hi : i < bs.length) : w.cell? ⟨g, i, none⟩ = some (.int .u8 (bs[i].toNat : Int)) := by
  rw [h.cell]; simp [hi]; rfl
theorem BlkB.setB {w : World} {g : Nat} {bs cs : List UInt8} {off : Nat} {b : UInt8} (h : BlkB w g (splice bs off cs)) (hl : off + cs.length < bs.length) :
    BlkB (w.setCell ⟨g, off + cs.length, none⟩ (bv b)) g (splice bs off (cs ++ [b])) := by
  have h1 := h.set_ (off + cs.length) (bv b)
  have e : ((splice bs off cs).map bv).toArray.setIfInBounds (off + cs.length) (bv b) = ((splice bs off (cs ++ [b])).map bv).toArray := by
    rw [List.setIfInBounds_toArray, ← List.map_set]
    congr 2
    exact set_lay bs cs off b hl
  unfold BlkB
  rw [← e]
  exact h1
theorem BlkB.zeros (w : World) (n : Nat) : BlkB (w.alloc (.cells (Array.replicate n (Value.int .u8 0)) 5)) w.heap.size (List.replicate n 0) := by
  have h := Blk.new w 5 (Array.replicate n (Value.int .u8 0))
  have e : ((List.replicate n (0 : UInt8)).map bv).toArray = Array.replicate n (Value.int .u8 0) := by rw [List.map_replicate, List.toArray_replicate]; rfl
  unfold BlkB; rw [e]; exact h
theorem Blk.rdB {w : World} {g off n : Nat} {bs : List UInt8} (h : BlkB w g bs) (hn : off + n ≤ bs.length) : RdB w (some ⟨g, off, none⟩) n ((bs.drop off).take n) := by
  refine ⟨by simp; omega, fun _ => ⟨_, rfl, h.lt, fun j u hu => ?_⟩⟩
  rw [add_lit, h.cell]
  have hj : j < n := by have := (List.getElem?_eq_some_iff.1 hu).1; simp at this; omega
  simp only [List.getElem?_map, List.getElem?_take, hj, if_true, List.getElem?_drop, List.getElem?_toArray] at hu ⊢
  exact hu
theorem splice_nil {α : Type} (L : List α) (off : Nat) : splice L off [] = L := by simp [splice]
theorem splice_len {bs cs : List UInt8} {off : Nat} (h : off + cs.length ≤ bs.length) : (splice bs off cs).length = bs.length := length_splice _ _ _ h

theorem splice_map {α β : Type} (f : α → β) (L cs : List α) (off : Nat) : splice (L.map f) off (cs.map f) = (splice L off cs).map f := by simp [splice, List.map_take, List.map_drop]

/-- copy onto a block of bytes, from whatever slice of bytes that has no more than there is room for. -/
theorem wpList_copy_bytes {w : World} {ops : Array Oper} {rest : List Oper} {o : Oper} {a : Act} {Q : Exit → Act → World → Prop} (hgd : o.guard = none) (d s : Operand)
    (ho : o.op = .call { callee := .builtin .copy, args := #[d, s], argTypes := #[36, 36] })
    (g off dl dc : Nat) (A : Option Addr) (n c : Nat) (bs xs : List UInt8) (hd : a.eval d = .slice (some ⟨g, off, none⟩) dl dc) (hs : a.eval s = .slice A n c)
    (hg : BlkB w g bs) (hr : RdB w A n xs) (hn : n ≤ dl) (hfit : off + n ≤ bs.length)
    (h : ∀ w', BlkB w' g (splice bs off xs) → Only (fun k => k = g) w w' → wpList Try.prog ops Q rest (a.put o.dst (goInt n)) w') : wpList Try.prog ops Q (o :: rest) a w := by
  have hl := hr.blen
  have hsz : (Try.prog.info? 5).map (·.size) = some 1 := oneU8
  rcases Nat.eq_zero_or_pos n with h0 | h0
  · subst h0
    obtain rfl : xs = [] := List.eq_nil_of_length_eq_zero hl
    refine wpList_copy_nothing hgd d s _ _ ho 5 Try.underlying36 hsz _ _ _ _ _ _ hd hs (by simp) ?_
    exact h w (by rw [splice_nil]; exact hg) (Only.refl _ _)
  · obtain ⟨ad, rfl, _, hcell⟩ := hr.2 h0
    refine wpList_copy_own hgd d s _ _ ho 5 Try.underlying36 hsz g off dl dc ad n c hd hs (bs.map bv).toArray 5 hg (xs.map bv) (by rw [List.length_map, hl]; exact (Nat.min_eq_left hn).symm) hcell (by simp; omega) (map_bv_one _) ?_
    have e : ((bs.map bv).toArray.toList.take off ++ (xs.map bv ++ (bs.map bv).toArray.toList.drop (off + (xs.map bv).length))).toArray = ((splice bs off xs).map bv).toArray := by
      rw [← splice_map]; rfl
    rw [e, List.length_map, hl]
    exact h _ (setRow_heap w g _ _ _ _ hg) ((Only.refl (fun k => k = g) w).setRow (g := g) (fun _ => rfl) _)

/-- The same where what is copied may be longer than there is room for. -/
theorem wpList_copy_min {w : World} {ops : Array Oper} {rest : List Oper} {o : Oper} {a : Act} {Q : Exit → Act → World → Prop} (hgd : o.guard = none) (d s : Operand)
    (ho : o.op = .call { callee := .builtin .copy, args := #[d, s], argTypes := #[36, 36] })
    (g off dl dc : Nat) (A : Option Addr) (n c : Nat) (bs xs : List UInt8) (hd : a.eval d = .slice (some ⟨g, off, none⟩) dl dc) (hs : a.eval s = .slice A n c)
    (hg : BlkB w g bs) (hr : RdB w A n xs) (hfit : off + dl ≤ bs.length)
    (h : ∀ w', BlkB w' g (splice bs off (xs.take dl)) → Only (fun k => k = g) w w' → wpList Try.prog ops Q rest (a.put o.dst (goInt ((min n dl : Nat) : Int))) w') : wpList Try.prog ops Q (o :: rest) a w := by
  have hl := hr.blen
  have hsz : (Try.prog.info? 5).map (·.size) = some 1 := oneU8
  rcases Nat.eq_zero_or_pos (min n dl) with h0 | h0
  · have hx : xs.take dl = [] := List.eq_nil_of_length_eq_zero (by rw [List.length_take]; omega)
    refine wpList_copy_nothing hgd d s _ _ ho 5 Try.underlying36 hsz _ _ _ _ _ _ hd hs h0 ?_
    have h' := h w (by rw [hx, splice_nil]; exact hg) (Only.refl _ _)
    rw [h0] at h'
    exact h'
  · obtain ⟨ad, rfl, _, hcell⟩ := hr.2 (by omega)
    have hlt : ((xs.take dl).map bv).length = min n dl := by rw [List.length_map, List.length_take]; omega
    refine wpList_copy_own hgd d s _ _ ho 5 Try.underlying36 hsz g off dl dc ad n c hd hs (bs.map bv).toArray 5 hg ((xs.take dl).map bv) hlt (fun j v hj => hcell j v ?_) (by simp; omega) (map_bv_one _) ?_
    · rw [List.map_take, List.getElem?_take] at hj
      split at hj
      · exact hj
      · cases hj
    have e : ((bs.map bv).toArray.toList.take off ++ ((xs.take dl).map bv ++ (bs.map bv).toArray.toList.drop (off + ((xs.take dl).map bv).length))).toArray = ((splice bs off (xs.take dl)).map bv).toArray := by
      rw [← splice_map]; rfl
    rw [e, hlt]
    exact h _ (setRow_heap w g _ _ _ _ hg) ((Only.refl (fun k => k = g) w).setRow (g := g) (fun _ => rfl) _)

/-- Nothing is handed back; block g holds these bytes; nothing else is turned. -/
def RetBlk (g : Nat) (bs : List UInt8) (w : World) (e : Ending) (w' : World) : Prop := e = .returned (.tuple #[]) ∧ BlkB w' g bs ∧ Only (fun j => j = g) w w'

theorem byte_at {x k : Nat} : (Value.int .u8 ((x : Int) / 2 ^ (8 * k) % 256)) = bv (UInt8.ofNat (x / 2 ^ (8 * k) % 256)) := by
  unfold bv
  rw [u8_ofNat_toNat _ (Nat.mod_lt _ (by omega))]
  simp [Int.natCast_ediv, Int.natCast_emod]

set_option maxHeartbeats 400000 in
/-- frame.put: the n lowest bytes of x are laid into the block from off on. -/
theorem put_any (g off m c n : Nat) (x : Nat) (bs : List UInt8) (w : World) (hg : BlkB w g bs) (hn : n ≤ m) (hm : off + m ≤ bs.length) (_hmc : m ≤ c) (hn8 : n ≤ 8) :
    Calls Try.prog 92 #[.slice (some ⟨g, off, none⟩) m c, .int .u64 (x : Int), .int .i64 (n : Int)] w (RetBlk g (splice bs off (leB x n)) w) := by
  have HG := Lib.hid hg
  clear hg
  go_enter Try.func92, Try.ntmps92
  go_wp2
  go_loopw [8] (fun i wr => ∃ k : Nat, k ≤ n ∧ i = .int .i64 k ∧ BlkB wr g (splice bs off (leB x k)) ∧ Only (fun j => j = g) w wr) (fun i _ => n - (intOf i).toNat)
  case atStart => exact ⟨0, Nat.zero_le _, rfl, by rw [leB_zero, splice_nil]; exact HG.out, Only.refl _ _⟩
  case round =>
    obtain ⟨k, hk, rfl, hb, ho⟩ := hrel
    have HB := Lib.hid hb
    clear hb
    by_cases hlt : k < n
    · have hll : off + (leB x k).length < bs.length := by rw [leB_length]; omega
      have hlen : off + k < (splice bs off (leB x k)).length := by rw [splice_len (by omega)]; omega
      obtain ⟨b0, hcell⟩ : ∃ b0 : UInt8, wr.cell? ⟨g, off + k, none⟩ = some (.int .u8 (b0.toNat : Int)) := ⟨_, HB.out.bcell hlen⟩
      have hfr := HB.out.frozen (off + k)
      have hk8 : k < 8 := by omega
      have HL := Lib.hid hll
      clear hll hlen
      go_wp2
      go_roundw
      case rel =>
        refine ⟨k + 1, by omega, by go_num, ?_, ho.setCell (p := ⟨g, off + k, none⟩) (fun _ => rfl) _⟩
        have h1 := BlkB.setB (b := UInt8.ofNat (x / 2 ^ (8 * k) % 256)) HB.out HL.out
        rw [leB_length, ← leB_succ, ← byte_at] at h1
        exact h1
      case measure => simp [intOf]; omega
    · obtain rfl : k = n := by omega
      go_wp2
      go_end0
      exact ⟨rfl, HB.out, ho⟩

theorem or_shift (a b k : Nat) (ha : a < 256 ^ k) (hb : b < 256) (hk : k < 8) : bits .or .u64 (a : Int) (IntKind.u64.wrap ((b : Int) * 2 ^ (8 * k))) = ((a + 256 ^ k * b : Nat) : Int) := by
  have h2 : (256 : Nat) ^ k = 2 ^ (8 * k) := by rw [Nat.pow_mul]
  have h3 : 256 ^ k * b < 256 ^ (k + 1) := by rw [Nat.pow_succ]; exact Nat.mul_lt_mul_of_pos_left hb (Nat.pow_pos (by omega))
  have h4 : 256 ^ (k + 1) ≤ 256 ^ 8 := Nat.pow_le_pow_right (by omega) (by omega)
  have h5 : (256 : Nat) ^ 8 = 18446744073709551616 := by decide
  have h6 : 256 ^ k ≤ 256 ^ (k + 1) := Nat.pow_le_pow_right (by omega) (by omega)
  have e1 : (b : Int) * 2 ^ (8 * k) = ((256 ^ k * b : Nat) : Int) := by rw [h2, Int.natCast_mul, Int.natCast_pow, Int.mul_comm]; rfl
  have e2 : IntKind.u64.wrap (((256 ^ k * b : Nat) : Nat) : Int) = ((256 ^ k * b : Nat) : Int) := by
    rw [IntKind.wrap_u64]; omega
  rw [e1, e2, u64_or_nat a (256 ^ k * b) (by omega) (by omega)]
  congr 1
  rw [Nat.or_comm, h2, ← Nat.two_pow_add_eq_or_of_lt (by rw [← h2]; exact ha), Nat.add_comm]

set_option maxHeartbeats 400000 in
/-- frame.get: the number that the first n bytes mean. -/
theorem get_any (A : Option Addr) (m c n : Nat) (bs : List UInt8) (w : World) (hr : RdB w A m bs) (hn : n ≤ m) (hn8 : n ≤ 8) :
    Calls Try.prog 105 #[.slice A m c, .int .i64 (n : Int)] w (RetW (.int .u64 (leN (bs.take n) : Int)) w) := by
  have HR := Lib.hid hr
  clear hr
  go_enter Try.func105, Try.ntmps105
  go_wp2
  go_loop [5, 8] (fun x i => ∃ (k a : Nat), k ≤ n ∧ i = .int .i64 k ∧ x = .int .u64 (a : Int) ∧ Hid (a = leN (bs.take k))) (fun _ i => n - (intOf i).toNat)
  case atStart => exact ⟨0, 0, Nat.zero_le _, rfl, rfl, rfl⟩
  case round =>
    obtain ⟨k, a, hk, rfl, rfl, ha⟩ := hrel
    by_cases hlt : k < n
    · obtain ⟨ad, b, rfl, _, hb, hc⟩ := HR.out.byte (show k < m by omega)
      have hb8 := b.toNat_lt
      have hk8 : k < 8 := by omega
      go_wp2
      go_round
      case rel =>
        have hal : a < 256 ^ k := by
          rw [ha.out]
          have h := leN_lt (bs.take k)
          have hk : (bs.take k).length = k := by have := HR.out.blen; rw [List.length_take]; omega
          rw [hk] at h
          exact h
        refine ⟨k + 1, a + 256 ^ k * b.toNat, by omega, by go_num, congrArg (Value.int .u64) (or_shift a b.toNat k hal hb8 hk8), ?_⟩
        show _ = _
        obtain ⟨hl, rfl⟩ := List.getElem?_eq_some_iff.1 hb.out
        rw [List.take_succ_eq_append_getElem hl, leN_snoc, ← ha.out, List.length_take, Nat.min_eq_left (by omega)]
      case measure => simp [intOf]; omega
    · obtain rfl : k = n := by omega
      go_wp2
      go_ret
      have e := ha.out
      subst e
      exact ⟨rfl, rfl⟩
end Go.Proofs.Ytenommboacjopaa
