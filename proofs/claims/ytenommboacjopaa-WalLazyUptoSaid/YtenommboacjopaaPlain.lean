/- The document's sum and frames as plain functions on lists of bytes. No program, no memory. -/
namespace Go.Proofs.Ytenommboacjopaa

/-- Induction from the list's end. -/
theorem snoc_ind {α : Type} {P : List α → Prop} (h0 : P []) (hs : ∀ l a, P l → P (l ++ [a])) (l : List α) : P l := by
  have h : ∀ r : List α, P r.reverse := fun r => by
    induction r with
    | nil => exact h0
    | cons a r ih => rw [List.reverse_cons]; exact hs _ _ ih
  have := h l.reverse
  rwa [List.reverse_reverse] at this
abbrev W32 := BitVec 32
def poly : W32 := 0xEDB88320#32
/-- The register behind one step. -/
def crcBit (r : W32) : W32 := if r.toNat % 2 = 1 then (r >>> 1) ^^^ poly else r >>> 1
def crcBits : Nat → W32 → W32
  | 0, r => r
  | n + 1, r => crcBits n (crcBit r)
theorem crcBits_succ (n : Nat) (r : W32) : crcBits (n + 1) r = crcBit (crcBits n r) := by
  induction n generalizing r with
  | zero => rfl
  | succ n ih => exact ih (crcBit r)
def crcIn (r : W32) (b : UInt8) : W32 := r ^^^ BitVec.ofNat 32 b.toNat
def crcByte (r : W32) (b : UInt8) : W32 := crcBits 8 (crcIn r b)
def crcReg (r : W32) (bs : List UInt8) : W32 := bs.foldl crcByte r
/-- The sum. -/
def crc (bs : List UInt8) : W32 := ~~~ crcReg (~~~ 0#32) bs

theorem crcReg_snoc (r : W32) (bs : List UInt8) (b : UInt8) : crcReg r (bs ++ [b]) = crcByte (crcReg r bs) b := by simp [crcReg, List.foldl_append]
theorem crcReg_take {r : W32} {bs : List UInt8} {k : Nat} {b : UInt8} (h : bs[k]? = some b) : crcReg r (bs.take (k + 1)) = crcByte (crcReg r (bs.take k)) b := by
  obtain ⟨hk, rfl⟩ := List.getElem?_eq_some_iff.1 h
  rw [List.take_succ_eq_append_getElem hk, crcReg_snoc]

/-- The n lowest bytes of a number, the lowest first. -/
def leB (x n : Nat) : List UInt8 := (List.range n).map fun i => UInt8.ofNat (x / 2 ^ (8 * i) % 256)
theorem leB_length (x n : Nat) : (leB x n).length = n := by simp [leB]
theorem leB_zero (x : Nat) : leB x 0 = [] := rfl
theorem leB_succ (x n : Nat) : leB x (n + 1) = leB x n ++ [UInt8.ofNat (x / 2 ^ (8 * n) % 256)] := by simp [leB, List.range_succ]
/-- The number that these bytes mean, the lowest first. -/
def leN : List UInt8 → Nat
  | [] => 0
  | b :: bs => b.toNat + 256 * leN bs
theorem leN_append (xs ys : List UInt8) : leN (xs ++ ys) = leN xs + 256 ^ xs.length * leN ys := by
  induction xs with
  | nil => simp [leN]
  | cons b bs ih => simp only [List.cons_append, leN, ih, List.length_cons, Nat.pow_succ, Nat.mul_add]; rw [Nat.mul_comm (256 ^ bs.length) 256, Nat.mul_assoc]; omega
theorem leN_lt (xs : List UInt8) : leN xs < 256 ^ xs.length := by
  induction xs with
  | nil => simp [leN]
  | cons b bs ih => simp only [leN, List.length_cons, Nat.pow_succ]; have := b.toNat_lt; omega
theorem leN_snoc (xs : List UInt8) (b : UInt8) : leN (xs ++ [b]) = leN xs + 256 ^ xs.length * b.toNat := by rw [leN_append]; simp [leN]
theorem u8_ofNat_toNat (n : Nat) (h : n < 256) : (UInt8.ofNat n).toNat = n := by rw [UInt8.toNat_ofNat']; omega
theorem leN_leB (x n : Nat) : leN (leB x n) = x % 256 ^ n := by
  induction n with
  | zero => simp [leB, leN, Nat.mod_one]
  | succ n ih =>
    have h2 : (2 : Nat) ^ (8 * n) = 256 ^ n := by rw [Nat.pow_mul]
    rw [leB_succ, leN_snoc, ih, leB_length, u8_ofNat_toNat _ (Nat.mod_lt _ (by omega)), h2, Nat.pow_succ, Nat.mod_mul]
theorem leB_cons (x n : Nat) : leB x (n + 1) = UInt8.ofNat (x % 256) :: leB (x / 256) n := by
  unfold leB
  rw [List.range_succ_eq_map, List.map_cons, List.map_map]
  congr 1
  · simp
  · apply List.map_congr_left
    intro i _
    simp only [Function.comp_apply]
    rw [Nat.div_div_eq_div_mul, show (2 : Nat) ^ (8 * (i + 1)) = 256 * 2 ^ (8 * i) from by rw [Nat.mul_add, Nat.pow_add, Nat.mul_comm]]
theorem leB_leN (bs : List UInt8) : leB (leN bs) bs.length = bs := by
  induction bs with
  | nil => rfl
  | cons b bs ih =>
    have h := b.toNat_lt
    rw [List.length_cons, leB_cons, leN, show (b.toNat + 256 * leN bs) % 256 = b.toNat from by omega, show (b.toNat + 256 * leN bs) / 256 = leN bs from by omega, ih, UInt8.ofNat_toNat]

/-- A list laid over another from a place on, one more at its end. -/
theorem set_lay {α : Type} (L cs : List α) (off : Nat) (b : α) (h : off + cs.length < L.length) :
    (L.take off ++ (cs ++ L.drop (off + cs.length))).set (off + cs.length) b = L.take off ++ ((cs ++ [b]) ++ L.drop (off + (cs ++ [b]).length)) := by
  have h1 : (L.take off).length = off := by rw [List.length_take]; omega
  rw [List.set_append_right _ _ (by omega), h1, List.set_append_right _ _ (by omega), show off + cs.length - off - cs.length = 0 from by omega,
    List.drop_eq_getElem_cons (by omega : off + cs.length < L.length), List.set_cons_zero]
  simp [List.append_assoc, Nat.add_assoc]

/-- A frame but for its sum: m bytes. -/
def preB (kind : UInt8) (gen : Nat) (body : List UInt8) (m : Nat) : List UInt8 :=
  kind :: (leB body.length 2 ++ (leB gen 8 ++ (body ++ List.replicate (m - 11 - body.length) 0)))
/-- A frame of m + 4 bytes. -/
def sealB (kind : UInt8) (gen : Nat) (body : List UInt8) (m : Nat) : List UInt8 := preB kind gen body m ++ leB (crc (preB kind gen body m)).toNat 4
theorem preB_length {kind : UInt8} {gen : Nat} {body : List UInt8} {m : Nat} (h : body.length + 11 ≤ m) : (preB kind gen body m).length = m := by
  simp [preB, leB_length]; omega
theorem sealB_length {kind : UInt8} {gen : Nat} {body : List UInt8} {m : Nat} (h : body.length + 11 ≤ m) : (sealB kind gen body m).length = m + 4 := by
  rw [sealB, List.length_append, preB_length h, leB_length]
theorem lay_at {α : Type} (P cs D S : List α) (off : Nat) (hP : P.length = off) (hD : D.length = cs.length) : (P ++ (D ++ S)).take off ++ (cs ++ (P ++ (D ++ S)).drop (off + cs.length)) = P ++ (cs ++ S) := by
  subst hP
  have h1 : (P ++ (D ++ S)).drop (P.length + cs.length) = S := by
    rw [← List.append_assoc, ← hD, ← List.length_append, List.drop_left]
  rw [List.take_left, h1]

/-- What a frame's bytes say, where they are a frame. -/
def openB (bs : List UInt8) : Option (UInt8 × Nat × List UInt8) :=
  if bs.length < 15 ∨ 8192 < bs.length then none
  else if (crc (bs.take (bs.length - 4))).toNat ≠ leN (bs.drop (bs.length - 4)) then none
  else if bs.length - 15 < leN ((bs.drop 1).take 2) then none
  else if ((bs.drop (11 + leN ((bs.drop 1).take 2))).take (bs.length - 15 - leN ((bs.drop 1).take 2))).all (· == 0) = false then none
  else some (bs.getD 0 0, leN ((bs.drop 3).take 8), (bs.drop 11).take (leN ((bs.drop 1).take 2)))
end Go.Proofs.Ytenommboacjopaa
