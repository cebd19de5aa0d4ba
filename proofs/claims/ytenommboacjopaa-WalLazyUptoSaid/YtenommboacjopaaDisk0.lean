/- A disk: its state as plain data, and how it lies in memory. -/
import Derived.Test.YtenommboacjopaaMap
import Derived.Test.YtenommboacjopaaPut
namespace Go.Proofs.Ytenommboacjopaa
open Go.RowKit

abbrev Wr := Nat × List UInt8
/-- The state of a disk. -/
structure Dk where
  size : Nat
  n : Nat
  dur : List UInt8
  wait : List Wr
  armed : Int
  dead : Bool
  rd : Nat
  wr : Nat
  fl : Nat
structure DkOk (D : Dk) : Prop where
  s1 : 32 ≤ D.size
  s2 : D.size ≤ 1024
  n1 : 1 ≤ D.n
  n2 : D.n ≤ 16384
  len : D.dur.length = D.n * D.size
  wt : ∀ x ∈ D.wait, x.1 < D.n ∧ x.2.length = D.size
  a1 : -1 ≤ D.armed
  a2 : D.armed ≤ 9223372036854775807
  cnt : D.wait.length ≤ 4398046511104

/-- Where in the list the last write of a sector stands. -/
def latest (l : List Wr) (x : Int) : Option Int := (l.zipIdx.foldl (fun (acc : Option Nat) p => if (p.1.1 : Int) = x then some p.2 else acc) none).map (fun n => (n : Int))
theorem latest_nil (x : Int) : latest [] x = none := rfl
theorem latest_snoc (l : List Wr) (p : Wr) : latest (l ++ [p]) = setAt (latest l) p.1 (some (l.length : Int)) := by
  funext x
  unfold latest setAt
  rw [List.zipIdx_append, List.foldl_append]
  by_cases h : x = (p.1 : Int)
  · simp [h]
  · simp [h, Ne.symm h]
/-- The bytes of the last write of a sector. -/
def lastW (l : List Wr) (at_ : Nat) : Option (List UInt8) := l.foldl (fun acc p => if p.1 = at_ then some p.2 else acc) none
theorem lastW_snoc (l : List Wr) (p : Wr) (a : Nat) : lastW (l ++ [p]) a = if p.1 = a then some p.2 else lastW l a := by simp [lastW]
theorem latest_lastW (l : List Wr) (a : Nat) : (latest l a = none ∧ lastW l a = none) ∨ ∃ (i : Nat) (p : Wr), latest l a = some (i : Int) ∧ l[i]? = some p ∧ p.1 = a ∧ lastW l a = some p.2 := by
  refine snoc_ind (P := fun l => (latest l a = none ∧ lastW l a = none) ∨ ∃ (i : Nat) (p : Wr), latest l a = some (i : Int) ∧ l[i]? = some p ∧ p.1 = a ∧ lastW l a = some p.2) (.inl ⟨rfl, rfl⟩) ?_ l
  intro l p ih
  rw [latest_snoc, lastW_snoc]
  unfold setAt
  by_cases h : p.1 = a
  · exact .inr ⟨l.length, p, by rw [if_pos (by rw [h])], by simp, h, by rw [if_pos h]⟩
  · have h' : ¬ (a : Int) = (p.1 : Int) := fun e => h (by omega)
    rw [if_neg h, if_neg h']
    rcases ih with ih | ⟨i, q, h1, h2, h3, h4⟩
    · exact .inl ih
    · exact .inr ⟨i, q, h1, by rw [List.getElem?_append_left (List.getElem?_eq_some_iff.1 h2).1]; exact h2, h3, h4⟩
/-- What a sector holds. -/
def Dk.holds (D : Dk) (at_ : Nat) : List UInt8 := (lastW D.wait at_).getD ((D.dur.drop (at_ * D.size)).take D.size)

/-- A write laid over a disk's bytes. -/
def layW (dur : List UInt8) (size : Nat) (p : Wr) : List UInt8 := splice dur (p.1 * size) p.2
def layAll (dur : List UInt8) (size : Nat) (l : List Wr) : List UInt8 := l.foldl (fun d p => layW d size p) dur
theorem layAll_snoc (dur : List UInt8) (size : Nat) (l : List Wr) (p : Wr) : layAll dur size (l ++ [p]) = layW (layAll dur size l) size p := by simp [layAll]
theorem fits {a n size : Nat} (h : a < n) : a * size + size ≤ n * size := by rw [← Nat.succ_mul]; exact Nat.mul_le_mul_right _ h
theorem layW_length {dur : List UInt8} {size n : Nat} {p : Wr} (hl : dur.length = n * size) (h1 : p.1 < n) (h2 : p.2.length = size) : (layW dur size p).length = n * size := by
  have := fits (size := size) h1
  rw [layW, splice_len (by omega), hl]
theorem layAll_length {dur : List UInt8} {size n : Nat} (l : List Wr) (hl : dur.length = n * size) (h : ∀ x ∈ l, x.1 < n ∧ x.2.length = size) : (layAll dur size l).length = n * size := by
  revert h
  refine snoc_ind (P := fun l => (∀ x ∈ l, x.1 < n ∧ x.2.length = size) → (layAll dur size l).length = n * size) (fun _ => hl) ?_ l
  intro l p ih h
  rw [layAll_snoc]
  exact layW_length (ih fun x hx => h x (by simp [hx])) (h p (by simp)).1 (h p (by simp)).2

/-! In memory. -/
/-- Where the parts of a disk lie: the durable bytes, the map, the waiting list's value, the blocks of the waiting writes' bytes. -/
structure DkM where
  gd : Nat
  gm : Nat
  wv : Value
  gs : List Nat
def dkCells (D : Dk) (M : DkM) : Array Value :=
  #[.int .i64 (D.size : Int), .slice (some ⟨M.gd, 0, none⟩) (D.n * D.size) (D.n * D.size), M.wv, .map (some M.gm), .int .i64 D.armed, .bool D.dead, .int .i64 (wrap64 D.rd), .int .i64 (wrap64 D.wr), .int .i64 (wrap64 D.fl)]
/-- The cells of a list of writes, the bytes of each in a block. -/
def wCells : List Wr → List Nat → List Value
  | p :: l, g :: gs => .int .i64 (p.1 : Int) :: .slice (some ⟨g, 0, none⟩) p.2.length p.2.length :: wCells l gs
  | _, _ => []
theorem wCells_snoc : ∀ (l : List Wr) (gs : List Nat) (p : Wr) (g : Nat), gs.length = l.length → wCells (l ++ [p]) (gs ++ [g]) = wCells l gs ++ [.int .i64 (p.1 : Int), .slice (some ⟨g, 0, none⟩) p.2.length p.2.length]
  | [], [], _, _, _ => rfl
  | q :: l, h :: gs, p, g, e => by
    simp only [List.cons_append, wCells]
    rw [wCells_snoc l gs p g (by simpa using e)]
  | [], _ :: _, _, _, e => by simp at e
  | _ :: _, [], _, _, e => by simp at e
theorem wCells_at : ∀ (l : List Wr) (gs : List Nat) (i : Nat) (p : Wr) (g : Nat), l[i]? = some p → gs[i]? = some g → (wCells l gs)[2 * i]? = some (.int .i64 (p.1 : Int)) ∧ (wCells l gs)[2 * i + 1]? = some (.slice (some ⟨g, 0, none⟩) p.2.length p.2.length)
  | q :: l, h :: gs, 0, p, g, hl, hg => by
    simp at hl hg; subst hl; subst hg
    exact ⟨rfl, rfl⟩
  | q :: l, h :: gs, i + 1, p, g, hl, hg => by
    simp only [List.getElem?_cons_succ] at hl hg
    have := wCells_at l gs i p g hl hg
    rw [show 2 * (i + 1) = 2 * i + 1 + 1 from by omega]
    simp only [wCells, List.getElem?_cons_succ]
    exact this
  | [], _, _, _, _, hl, _ => by simp at hl
  | _ :: _, [], _, _, _, _, hg => by simp at hg
theorem wCells_one : ∀ (l : List Wr) (gs : List Nat), ∀ u ∈ wCells l gs, u.oneCell' = true
  | p :: l, g :: gs, u, hu => by
    simp only [wCells, List.mem_cons] at hu
    rcases hu with rfl | rfl | hu
    · rfl
    · rfl
    · exact wCells_one l gs u hu
  | [], _, u, hu => by simp [wCells] at hu
  | _ :: _, [], u, hu => by simp [wCells] at hu

/-- The disk's state lies at block b; all that it is made of lies from block B on. -/
structure DiskAt (w : World) (B b : Nat) (D : Dk) (M : DkM) : Prop where
  ok : DkOk D
  blk : Blk w b 110 (dkCells D M)
  dur : BlkB w M.gd D.dur
  row : w.ownsRow B 120 2 M.wv D.wait.length (wCells D.wait M.gs)
  len : M.gs.length = D.wait.length
  bytes : ∀ (i : Nat) (p : Wr) (g : Nat), D.wait[i]? = some p → M.gs[i]? = some g → BlkB w g p.2
  map : IMap w M.gm (latest D.wait)
  gd : M.gd ∉ M.gs
  Bb : B ≤ b
  Bd : B ≤ M.gd
  Bm : B ≤ M.gm
  Bs : ∀ g ∈ M.gs, B ≤ g

/-- The blocks that a disk is made of. -/
def DkM.foot (M : DkM) (b : Nat) (k : Nat) : Prop := k = b ∨ k = M.gd ∨ k = M.gm ∨ M.wv.ownBlock = some k ∨ k ∈ M.gs

section
variable {w w' : World} {B b : Nat} {D : Dk} {M : DkM}
theorem DiskAt.keep (h : DiskAt w B b D M) (hk : ∀ k, k < w.heap.size → M.foot b k → w'.heap[k]? = w.heap[k]?) : DiskAt w' B b D M := by
  have hb := hk b h.blk.lt (.inl rfl)
  have hd := hk M.gd h.dur.lt (.inr (.inl rfl))
  have hm := hk M.gm h.map.lt (.inr (.inr (.inl rfl)))
  refine ⟨h.ok, hb.trans h.blk, hd.trans h.dur, ?_, h.len, fun i p g hi hg => ?_, h.map.keep hm, h.gd, h.Bb, h.Bd, h.Bm, h.Bs⟩
  · refine ⟨h.row.1, ?_⟩
    rcases h.row.2 with h0 | ⟨g, cap, cur, hv, hg1, hg2, r⟩
    · exact .inl h0
    · refine .inr ⟨g, cap, cur, hv, hg1, ?_, r⟩
      rw [hk g (Array.getElem?_eq_some_iff.1 hg2).1 (.inr (.inr (.inr (.inl (by rw [hv]; rfl)))))]
      exact hg2
  · have hx := h.bytes i p g hi hg
    exact (hk g hx.lt (.inr (.inr (.inr (.inr (List.mem_of_getElem? hg)))))).trans hx
theorem DiskAt.only {F : Nat → Prop} (h : DiskAt w B b D M) (ho : Only F w w') (hF : ∀ k, M.foot b k → ¬ F k) : DiskAt w' B b D M := h.keep fun k hk hf => ho.block k hk (hF k hf)
theorem DiskAt.below (h : DiskAt w B b D M) (hb : Below w.heap.size w w') : DiskAt w' B b D M := h.keep fun k hk _ => hb.block k hk
theorem DiskAt.drewN (h : DiskAt w B b D M) (n : Nat) : DiskAt (w.drewN n) B b D M := h.keep fun _ _ _ => rfl
theorem DiskAt.drew (h : DiskAt w B b D M) : DiskAt w.drew B b D M := h.keep fun _ _ _ => rfl
theorem DiskAt.foot_lt (h : DiskAt w B b D M) {k : Nat} (hf : M.foot b k) : B ≤ k ∧ k < w.heap.size := by
  rcases hf with rfl | rfl | rfl | hv | hg
  · exact ⟨h.Bb, h.blk.lt⟩
  · exact ⟨h.Bd, h.dur.lt⟩
  · exact ⟨h.Bm, h.map.lt⟩
  · exact h.row.lt k hv
  · refine ⟨h.Bs k hg, ?_⟩
    obtain ⟨i, hi, rfl⟩ := List.mem_iff_getElem.1 hg
    have hl := h.len
    exact (h.bytes i D.wait[i] M.gs[i] (List.getElem?_eq_getElem (by omega)) (List.getElem?_eq_getElem hi)).lt
end

theorem ownsRow_base {w : World} {B B' : Nat} {e : TypeId} {size : Nat} {v : Value} {n : Nat} {xs : List Value} (h : w.ownsRow B e size v n xs) (hB : B' ≤ B) : w.ownsRow B' e size v n xs := by
  refine ⟨h.1, ?_⟩
  rcases h.2 with h0 | ⟨g, cap, cur, hv, hg, r⟩
  · exact .inl h0
  · exact .inr ⟨g, cap, cur, hv, by omega, r⟩
theorem DiskAt.base {w : World} {B B' b : Nat} {D : Dk} {M : DkM} (h : DiskAt w B b D M) (hB : B' ≤ B) : DiskAt w B' b D M :=
  ⟨h.ok, h.blk, h.dur, ownsRow_base h.row hB, h.len, h.bytes, h.map, h.gd, Nat.le_trans hB h.Bb, Nat.le_trans hB h.Bd, Nat.le_trans hB h.Bm, fun g hg => Nat.le_trans hB (h.Bs g hg)⟩
/-- A disk over these bytes, fresh. -/
def freshDk (size n : Nat) (dur : List UInt8) : Dk := { size, n, dur, wait := [], armed := -1, dead := false, rd := 0, wr := 0, fl := 0 }
/-- A disk is handed back (ahead of OK), new; nothing that lay is turned. -/
def RetDisk (w : World) (D : Dk) (e : Ending) (w' : World) : Prop :=
  ∃ b M, e = .returned (.tuple #[.pointer (some ⟨b, 0, none⟩), .int .i64 0]) ∧ DiskAt w' w.heap.size b D M ∧ Below w.heap.size w w'
/-- Two results, the world unturned. -/
def RetQ (v : Value) (w : World) (e : Ending) (w' : World) : Prop := e = .returned v ∧ ∃ n, w' = w.drewN n

theorem DiskAt.c0 {w : World} {B b : Nat} {D : Dk} {M : DkM} (h : DiskAt w B b D M) : w.cell? ⟨b, 0, none⟩ = some (.int .i64 (D.size : Int)) := h.blk.at_ 0 rfl
theorem DiskAt.c1 {w : World} {B b : Nat} {D : Dk} {M : DkM} (h : DiskAt w B b D M) : w.cell? ⟨b, 1, none⟩ = some (.slice (some ⟨M.gd, 0, none⟩) (D.n * D.size) (D.n * D.size)) := h.blk.at_ 1 rfl
theorem DiskAt.c2 {w : World} {B b : Nat} {D : Dk} {M : DkM} (h : DiskAt w B b D M) : w.cell? ⟨b, 2, none⟩ = some M.wv := h.blk.at_ 2 rfl
theorem DiskAt.c3 {w : World} {B b : Nat} {D : Dk} {M : DkM} (h : DiskAt w B b D M) : w.cell? ⟨b, 3, none⟩ = some (.map (some M.gm)) := h.blk.at_ 3 rfl
theorem DiskAt.c4 {w : World} {B b : Nat} {D : Dk} {M : DkM} (h : DiskAt w B b D M) : w.cell? ⟨b, 4, none⟩ = some (.int .i64 D.armed) := h.blk.at_ 4 rfl
theorem DiskAt.c5 {w : World} {B b : Nat} {D : Dk} {M : DkM} (h : DiskAt w B b D M) : w.cell? ⟨b, 5, none⟩ = some (.bool D.dead) := h.blk.at_ 5 rfl
theorem DiskAt.c6 {w : World} {B b : Nat} {D : Dk} {M : DkM} (h : DiskAt w B b D M) : w.cell? ⟨b, 6, none⟩ = some (.int .i64 (wrap64 D.rd)) := h.blk.at_ 6 rfl
theorem DiskAt.c7 {w : World} {B b : Nat} {D : Dk} {M : DkM} (h : DiskAt w B b D M) : w.cell? ⟨b, 7, none⟩ = some (.int .i64 (wrap64 D.wr)) := h.blk.at_ 7 rfl
theorem DiskAt.c8 {w : World} {B b : Nat} {D : Dk} {M : DkM} (h : DiskAt w B b D M) : w.cell? ⟨b, 8, none⟩ = some (.int .i64 (wrap64 D.fl)) := h.blk.at_ 8 rfl

theorem wrap64_in {x : Int} (h1 : -9223372036854775808 ≤ x) (h2 : x ≤ 9223372036854775807) : wrap64 x = x := by unfold wrap64; omega
theorem wrap64_zero : wrap64 ((0 : Nat) : Int) = 0 := by unfold wrap64; omega

theorem wrap64_step (n : Nat) : wrap64 (wrap64 (n : Int) + 1) = wrap64 ((n + 1 : Nat) : Int) := by unfold wrap64; omega
/-- Only the disk's own struct is turned. -/
theorem DiskAt.upd {w w' : World} {B b : Nat} {D D' : Dk} {M : DkM} (h : DiskAt w B b D M) (hb : Blk w' b 110 (dkCells D' M)) (ho : Only (fun k => k = b) w w') (h1 : D'.dur = D.dur) (h2 : D'.wait = D.wait) (hok : DkOk D') : DiskAt w' B b D' M := by
  have n1 : M.gd ≠ b := h.dur.ne_ h.blk (by decide)
  have n2 : b ≠ M.gm := h.map.not_blk h.blk
  have n3 := own_blk_ne h.row h.blk (by decide)
  have n4 : ∀ (i : Nat) (p : Wr) (g : Nat), D.wait[i]? = some p → M.gs[i]? = some g → g ≠ b := fun i p g hi hg => (h.bytes i p g hi hg).ne_ h.blk (by decide)
  refine ⟨hok, hb, by rw [h1]; exact h.dur.only ho n1, ?_, by rw [h2]; exact h.len, ?_, ?_, h.gd, h.Bb, h.Bd, h.Bm, h.Bs⟩
  · rw [h2]
    refine ⟨h.row.1, ?_⟩
    rcases h.row.2 with h0 | ⟨g, cap, cur, hv, hg1, hg2, r⟩
    · exact .inl h0
    · refine .inr ⟨g, cap, cur, hv, hg1, ?_, r⟩
      rw [ho.block g (Array.getElem?_eq_some_iff.1 hg2).1 (fun e => n3 (by rw [hv, ← e]; rfl))]
      exact hg2
  · rw [h2]
    intro i p g hi hg
    exact (h.bytes i p g hi hg).only ho (n4 i p g hi hg)
  · rw [h2]
    exact h.map.keep (ho.block _ h.map.lt (fun e => n2 e.symm))
theorem DiskAt.row_at {w : World} {B b : Nat} {D : Dk} {M : DkM} (h : DiskAt w B b D M) {i : Nat} {p : Wr} (hi : D.wait[i]? = some p) :
    ∃ r cap g, M.wv = .slice (some ⟨r, 0, none⟩) D.wait.length cap ∧ D.wait.length ≤ cap ∧ M.gs[i]? = some g ∧ BlkB w g p.2 ∧ w.cell? ⟨r, i * 2, none⟩ = some (.int .i64 (p.1 : Int)) ∧ w.cell? ⟨r, i * 2 + 1, none⟩ = some (.slice (some ⟨g, 0, none⟩) p.2.length p.2.length) := by
  obtain ⟨hlt, hp⟩ := List.getElem?_eq_some_iff.1 hi
  have hl := h.len
  have hg : M.gs[i]? = some (M.gs[i]'(by omega)) := List.getElem?_eq_getElem (by omega)
  obtain ⟨r, cap, hv, hcap, _⟩ := h.row.form (by omega)
  have hc := h.row.cells (g := r) (by rw [hv]; rfl)
  obtain ⟨w1, w2⟩ := wCells_at D.wait M.gs i p _ hi hg
  have e1 := hc _ _ w1
  have e2 := hc _ _ w2
  rw [add_lit, Nat.zero_add] at e1 e2
  refine ⟨r, cap, _, hv, ?_, hg, h.bytes i p _ hi hg, by rw [Nat.mul_comm]; exact e1, by rw [Nat.mul_comm]; exact e2⟩
  rcases h.row.2 with ⟨h0, h1⟩ | ⟨g', cap', cur, hv', _, _, hle, _⟩
  · omega
  · rw [hv] at hv'
    injection hv' with _ _ hcc
    omega

theorem wrapi {x : Int} (h1 : -9223372036854775808 ≤ x) (h2 : x ≤ 9223372036854775807) : IntKind.i64.wrap x = x := by rw [IntKind.wrap_i64]; omega
/-- The numbers of a sector's place, as the walk wants them. -/
theorem sector_nums {k n size : Nat} (hk : k < n) (h2 : n ≤ 16384) (h1 : 32 ≤ size) (h3 : size ≤ 1024) :
    ∃ a e N : Nat, Hid (a = k * size) ∧ Hid (e = a + size) ∧ Hid (N = n * size) ∧ (k : Int) * (size : Int) = (a : Int) ∧ ((k : Int) + 1) * (size : Int) = (e : Int) ∧ IntKind.i64.wrap (a : Int) = (a : Int) ∧ IntKind.i64.wrap (e : Int) = (e : Int) ∧
      (0 : Int) ≤ (a : Int) ∧ (a : Int) ≤ (e : Int) ∧ (e : Int) ≤ (N : Int) ∧ ¬ N = a ∧ IntKind.i64.wrap ((k : Int) + 1) = (k : Int) + 1 ∧ (0 : Int) ≤ (e : Int) ∧ (a : Int) ≤ (N : Int) := by
  have hN : n * size ≤ 16777216 := Nat.mul_le_mul h2 h3
  have he := fits (size := size) hk
  refine ⟨k * size, k * size + size, n * size, rfl, rfl, rfl, by simp, by rw [Int.add_mul]; simp, wrapi (by omega) (by omega), wrapi (by omega) (by omega), by omega, by omega, by omega, by omega, wrapi (by omega) (by omega), by omega, by omega⟩

theorem ownsRow_only {w w' : World} {F : Nat → Prop} {B : Nat} {e : TypeId} {size : Nat} {v : Value} {n : Nat} {xs : List Value} (h : w.ownsRow B e size v n xs) (ho : Only F w w') (hF : ∀ g, v.ownBlock = some g → ¬ F g) : w'.ownsRow B e size v n xs := by
  refine ⟨h.1, ?_⟩
  rcases h.2 with h0 | ⟨g, cap, cur, hv, hg1, hg2, r⟩
  · exact .inl h0
  · exact .inr ⟨g, cap, cur, hv, hg1, (ho.block g (Array.getElem?_eq_some_iff.1 hg2).1 (hF g (by rw [hv]; rfl))).trans hg2, r⟩
theorem own_not_map {w : World} {B : Nat} {e : TypeId} {size : Nat} {v : Value} {n : Nat} {xs : List Value} {b : Nat} {f : Int → Option Int} (h : w.ownsRow B e size v n xs) (hm : IMap w b f) : ∀ g, v.ownBlock = some g → ¬ g = b := by
  rintro g hg rfl
  rcases h.2 with ⟨rfl, _⟩ | ⟨g', cap, cur, rfl, hg1, hg2, r⟩
  · cases hg
  · have : g' = g := by simpa [Value.ownBlock] using hg
    subst this
    obtain ⟨L, c, hb, _⟩ := hm
    rw [hg2] at hb
    cases hb
theorem Rd.only_map {w w' : World} {A : Option Addr} {n : Nat} {xs : List Value} {b : Nat} {f : Int → Option Int} (h : Rd w A n xs) (hm : IMap w b f) (ho : Only (fun k => k = b) w w') : Rd w' A n xs := by
  refine ⟨h.1, fun hn => ?_⟩
  obtain ⟨ad, e, hb, hc⟩ := h.2 hn
  have hx : xs[0]? = some (xs[0]'(by have := h.1; omega)) := List.getElem?_eq_getElem _
  have h0 := hc 0 _ hx
  have hne : ¬ ad.block = b := by
    rintro rfl
    obtain ⟨L, c, hmb, _⟩ := hm
    unfold World.cell? at h0
    rw [block_of_add, hmb] at h0
    cases h0
  exact ⟨ad, e, Nat.lt_of_lt_of_le hb ho.size, fun j u hu => (World.cell?_of_block (w := w) (by rw [block_of_add]; exact ho.block _ hb hne)).trans (hc j u hu)⟩
end Go.Proofs.Ytenommboacjopaa
