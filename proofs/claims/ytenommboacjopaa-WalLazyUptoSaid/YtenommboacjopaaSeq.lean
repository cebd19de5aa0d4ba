/- A range over an iterator that keeps state of its own in cells: whose blocks are whose. The blocks of the caller are named (C); the iterator turns none of them, a round turns them alone (and what the round was handed). -/
import Derived.Test.YtenommboacjopaaRead3
import Derived.RangeFuncFrom
import Derived.RangeFuncLeaves
import Derived.RangeFuncCalls
import Derived.RangeFuncRecord
namespace Go.Proofs.Ytenommboacjopaa
open Go.RowKit

/-- A record as it is handed to a round. -/
structure RecV where
  bs : List UInt8
  A : Option Addr
  c : Nat
def RecV.val (x : RecV) : Value := .slice x.A x.bs.length x.c
/-- What a round of the caller's may turn: the caller's blocks, and the record's. -/
structure Turned (C : Nat → Prop) (x : RecV) (C' : Nat → Prop) (w w' : World) : Prop where
  only : Only (fun k => C k ∨ x.val.ownBlock = some k) w w'
  own : ∀ k, C' k → (C k ∨ x.val.ownBlock = some k ∨ w.heap.size ≤ k) ∧ k < w'.heap.size
/-- What is said of the caller's blocks alone. -/
def Abides (J : List RecV → (Nat → Prop) → World → Prop) : Prop := ∀ pre C W W', J pre C W → Only (fun k => ¬ C k) W W' → J pre C W'
def AbidesS (foot : Nat → Prop) (S : List RecV → World → Prop) : Prop := ∀ xs W W', S xs W → Only (fun k => ¬ foot k) W W' → S xs W'

/-- The contract of an iterator of records that owns what lies outside C, and foot. -/
def SeqR (F : Fence) (n : Nat) (P : Program) (gf : Nat) (lb : Array Value) (foot : Nat → Prop) (S Sp : List RecV → World → Prop) (w : World) : Prop :=
  ∀ (l : Nat) (J Jx : List RecV → (Nat → Prop) → World → Prop) (W : World) (C0 : Nat → Prop), Below w.heap.size w W → Abides J → Abides Jx →
    (∀ pre x C W1, J pre C W1 → W.heap.size ≤ W1.heap.size → W1.ownsRow W.heap.size 5 1 x.val x.bs.length (x.bs.map bv) → (∀ g, x.val.ownBlock = some g → ¬ C g) → (∀ k, C k → k < W1.heap.size) → pre.length ≤ 100000 → Sp (pre ++ [x]) W1 →
      YieldAt F (n - 1) P l #[.int .i64 (pre.length : Int), x.val] W1 fun e W' => (e = .returned (.bool true) ∧ ∃ C', J (pre ++ [x]) C' W' ∧ Turned C x C' W1 W') ∨ (e = .returned (.bool false) ∧ ∃ C', Jx (pre ++ [x]) C' W' ∧ Turned C x C' W1 W')) →
    J [] C0 W → (∀ k, C0 k → k < W.heap.size ∧ ¬ foot k) →
    CallsIn F n P gf (#[.func (.yield l) #[] #[]] ++ lb) W fun e W' => (∃ v, e = .returned v) ∧ ((∃ xs C, S xs W' ∧ J xs C W' ∧ ∀ k, C k → ¬ foot k) ∨ (∃ pre C, Sp pre W' ∧ Jx pre C W' ∧ ∀ k, C k → ¬ foot k))

/-- How the body of a round may be left. -/
def postR (I : List RecV → (Nat → Prop) → World → Prop) (Ix : Code → List RecV → (Nat → Prop) → World → Prop) (pre : List RecV) (x : RecV) (C : Nat → Prop) (W : World) : Exit → Act → World → Prop
  | .normal, _, W' => ∃ C', I (pre ++ [x]) C' W' ∧ Turned C x C' W W'
  | .ret, _, W' => ∃ C', Ix .ret (pre ++ [x]) C' W' ∧ Turned C x C' W W'
  | .exit id, _, W' => ∃ C', Ix (.exit id) (pre ++ [x]) C' W' ∧ Turned C x C' W W'
  | .goto t, _, W' => ∃ C', Ix (.goto t) (pre ++ [x]) C' W' ∧ Turned C x C' W W'
  | .panic _, _, _ => False
  | .outgrown, _, _ => False

theorem only_putObj (F : Nat → Prop) (W : World) (l : Nat) (o : Obj) (h : F l) : Only F W (W.putObj l o) :=
  ⟨rfl, rfl, rfl, by simp, fun k _ hk => World.putObj_heap_other (fun e => hk (by rw [e]; exact h))⟩
theorem only_of_alloc (F : Nat → Prop) (W : World) (o : Obj) : Only F W (W.alloc o) := (Only.refl F W).alloc o

variable {F : Fence} {n : Nat} {P : Program}

theorem wpIn_rangeFunc_R {g : Operand} {ps : Array Tmp} {assign body : Code} {Q : Exit → Act → World → Prop} {a : Act} {w : World}
    (hro : F.round = none) (h1 : 1 ≤ n) {gf : Nat} {lb : Array Value} (hg : a.eval g = .func (.func gf) #[] lb) (hFg : F.fn gf) (eg : ∀ args w, (callFunc gf args).run P w = .ok (.enter gf args) w)
    {foot : Nat → Prop} {S Sp : List RecV → World → Prop} {w0 : World} (hseq : SeqR F (n - 1) P gf lb foot S Sp w0) (hb0 : Below w0.heap.size w0 w) (hps : ps.size = 2) (hfoot : ∀ k, foot k → k < w.heap.size)
    (hS : AbidesS foot S) (hSp : AbidesS foot Sp)
    (I : List RecV → (Nat → Prop) → World → Prop) (Ix : Code → List RecV → (Nat → Prop) → World → Prop) (hI : Abides I) (hIx : ∀ c, Abides (Ix c)) (C0 : Nat → Prop) (h0 : I [] C0 w) (hC0 : ∀ k, C0 k → k < w.heap.size ∧ ¬ foot k) (a₁ : Nat → RecV → Act)
    (hassign : ∀ (l i : Nat) (x : RecV) (W : World) (K : Act → World → Prop), K (a₁ i x) W →
      assign.wpIn (F.inRound l) (n - 1 - 1) P (Exit.then K (fun _ _ _ => False)) { tmps := (ps.zip #[.int .i64 (i : Int), x.val]).foldl (fun t (p, v) => t.setIfInBounds p v) a.tmps, defers := [] } W)
    (hbody : ∀ (l : Nat) (pre : List RecV) (x : RecV) (C : Nat → Prop) (W : World), I pre C W → w.heap.size ≤ W.heap.size → W.ownsRow w.heap.size 5 1 x.val x.bs.length (x.bs.map bv) → (∀ g, x.val.ownBlock = some g → ¬ C g) → (∀ k, C k → k < W.heap.size) → pre.length ≤ 100000 → Sp (pre ++ [x]) W →
      body.wpIn (F.inRound l) (n - 1 - 1) P (postR I Ix pre x C W) (a₁ pre.length x) W)
    (hdone : ∀ (xs : List RecV) (C : Nat → Prop) (W : World), S xs W → I xs C W → (∀ k, C k → ¬ foot k) → W.heap[w.heap.size]? = some (.deferred (some [])) → Q .normal { a with defers := { target := .collected w.heap.size, args := #[] } :: a.defers } W)
    (hstop : ∀ (c : Code) (pre : List RecV) (C : Nat → Prop) (W : World), Sp pre W → Ix c pre C W → (∀ k, C k → ¬ foot k) → W.heap[w.heap.size]? = some (.deferred (some [])) → c.wpIn F n P Q { a with defers := { target := .collected w.heap.size, args := #[] } :: a.defers } W) :
    (Code.rangeFunc g ps assign body).wpIn F n P Q a w := by
  refine wpIn_rangeFunc ?_
  intro fn hfn
  rw [hro]
  obtain ⟨B, hB⟩ : ∃ B, B = w.heap.size := ⟨_, rfl⟩
  obtain ⟨mk, hmk⟩ : ∃ mk : LoopState → Option Code → Loop, mk = fun st pe => { state := st, pending := pe, fn, tmps := a.tmps, params := ps, assign, body, defers := B } := ⟨_, rfl⟩
  obtain ⟨W1, hW1⟩ : ∃ W1, W1 = (w.alloc (.deferred (some []))).alloc (.loop (mk .ready none)) := ⟨_, rfl⟩
  have hsz1 : W1.heap.size = B + 2 := by rw [hW1, hB]; simp
  have hL1 : W1.heap[B + 1]? = some (.loop (mk .ready none)) := by
    have h := World.alloc_heap_new (w.alloc (.deferred (some []))) (.loop (mk .ready none))
    rw [World.size_alloc, ← hB] at h
    rw [hW1]; exact h
  have hD1 : W1.heap[B]? = some (.deferred (some [])) := by
    have h := World.alloc_heap_new w (.deferred (some []))
    rw [← hB] at h
    rw [hW1]; exact (Below.heap_alloc _ _ _ (by rw [World.size_alloc]; omega)).trans h
  have ho1 : Only (fun _ => False) w W1 := by rw [hW1]; exact ((Only.refl _ w).alloc _).alloc _
  have hb1 : Below w0.heap.size w0 W1 := by
    rw [hW1]; exact hb0.trans ((((Below.refl _ w).alloc (Nat.le_refl _) _).alloc (by simp) _).mono hb0.size)
  -- the caller's blocks, the record and the block for deferred calls among them
  let Jr : LoopState → Option Code → (List RecV → (Nat → Prop) → World → Prop) → List RecV → (Nat → Prop) → World → Prop :=
    fun st pe I pre C W => ∃ Cu : Nat → Prop, (∀ k, C k ↔ Cu k ∨ k = B ∨ k = B + 1) ∧ ¬ Cu B ∧ ¬ Cu (B + 1) ∧ I pre Cu W ∧ W.heap[B + 1]? = some (.loop (mk st pe)) ∧ W.heap[B]? = some (.deferred (some []))
  have hJr : ∀ st pe I, Abides I → Abides (Jr st pe I) := by
    intro st pe I hI pre C W W' hj ho
    obtain ⟨Cu, h1, h2, h3, h4, h5, h6⟩ := hj
    refine ⟨Cu, h1, h2, h3, hI pre Cu W W' h4 (ho.mono fun k _ hk hc => hk ((h1 k).2 (.inl hc))), ?_, ?_⟩
    · rw [ho.block (B + 1) (Array.getElem?_eq_some_iff.1 h5).1 (fun x => x ((h1 _).2 (.inr (.inr rfl))))]; exact h5
    · rw [ho.block B (Array.getElem?_eq_some_iff.1 h6).1 (fun x => x ((h1 _).2 (.inr (.inl rfl))))]; exact h6
  refine ⟨B + 1, [{ target := .collected B, args := #[] }], W1, { target := .fn (.func gf) lb, args := #[.func (.yield (B + 1)) #[] #[]] }, W1, gf, #[.func (.yield (B + 1)) #[] #[]] ++ lb, W1, ?_, ?_, ?_, ?_, fun _ => h1, ?_⟩
  · rw [hW1, hmk, hB]; exact run_enterLoop_outer _ _ _ _ _
  · simp only [resolve, hg]
    simp [go_sem]
  · intro f' hf'; simp [Target.leads] at hf'; subst hf'; exact hFg
  · simp [invoke, go_sem, eg]
  · refine (hseq (B + 1) (Jr .ready none I) (fun pre C W => ∃ c, Jr .done (some c) (Ix c) pre C W) W1 (fun k => C0 k ∨ k = B ∨ k = B + 1) hb1 (hJr _ _ _ hI)
      (fun pre C W W' hj ho => by obtain ⟨c, hc⟩ := hj; exact ⟨c, hJr _ _ _ (hIx c) pre C W W' hc ho⟩) ?_ ⟨C0, fun _ => Iff.rfl, fun hc => by have := (hC0 _ hc).1; omega, fun hc => by have := (hC0 _ hc).1; omega, hI _ _ _ _ h0 (ho1.mono fun _ _ hf => hf.elim), hL1, hD1⟩ ?_).mono ?_
    · rintro pre x C W ⟨Cu, hCu, hnB, hnB1, hi, hl, hd⟩ hszW hown hxC hClt hpl hspx
      have hltB : B + 1 < W.heap.size := (Array.getElem?_eq_some_iff.1 hl).1
      have hy := run_yield (P := P) (args := #[.int .i64 (pre.length : Int), x.val]) hl (by rw [hmk]; exact hps.symm)
      have hy2 : (Instr.yield (B + 1) #[.int .i64 (pre.length : Int), x.val]).run P W = .ok (.round (B + 1) fn ((ps.zip #[.int .i64 (pre.length : Int), x.val]).foldl (fun tmps (t, a) => tmps.setIfInBounds t a) a.tmps) assign body) W := by
        rw [hmk] at hy; exact hy
      have hown2 : W.ownsRow w.heap.size 5 1 x.val x.bs.length (x.bs.map bv) := ownsRow_base hown (by rw [hsz1, hB]; omega)
      refine ⟨fn, _, assign, body, hy2, roundIn_of_wpIn hfn (hassign _ _ x W _ ⟨_, run_beginRound hl (by rw [hmk]), ?_⟩)⟩
      obtain ⟨W2, hW2⟩ : ∃ W2, W2 = W.putObj (B + 1) (.loop { mk .ready none with state := .busy }) := ⟨_, rfl⟩
      rw [← hW2]
      have hl2 : W2.heap[B + 1]? = some (.loop { mk .ready none with state := .busy }) := by rw [hW2]; exact World.putObj_heap_same hltB
      have hd2 : W2.heap[B]? = some (.deferred (some [])) := by rw [hW2]; exact (World.putObj_heap_other (by omega)).trans hd
      have ho2 : Only (fun k => k = B + 1) W W2 := by rw [hW2]; exact only_putObj _ _ _ _ rfl
      have hs2 : W2.heap.size = W.heap.size := by rw [hW2]; simp
      have hxB : ∀ g, x.val.ownBlock = some g → g ≠ B ∧ g ≠ B + 1 := fun g hg => ⟨fun e => hxC g hg ((hCu g).2 (.inr (.inl e))), fun e => hxC g hg ((hCu g).2 (.inr (.inr e)))⟩
      have hi2 : I pre Cu W2 := hI _ _ _ _ hi (ho2.mono fun k _ e hc => by rw [e] at hc; exact hnB1 hc)
      refine wpIn_mono (hbody (B + 1) pre x Cu W2 hi2 (by rw [hs2]; omega) (ownsRow_only hown2 ho2 fun g hg e => (hxB g hg).2 e) (fun g hg hc => hxC g hg ((hCu g).2 (.inl hc))) (fun k hc => by rw [hs2]; exact hClt k ((hCu k).2 (.inl hc))) hpl (hSp _ _ _ hspx (ho2.mono fun k _ e hf => by rw [e] at hf; have := hfoot _ hf; omega))) ?_
      have fin : ∀ (jump : Option Code) (st : LoopState) (Iz : List RecV → (Nat → Prop) → World → Prop) (C' : Nat → Prop) (W3 : World), Abides Iz → st = (if jump.isNone then .ready else .done) → Iz (pre ++ [x]) C' W3 → Turned Cu x C' W2 W3 →
          ∃ W4, (Instr.endRound (B + 1) jump).run P W3 = .ok (.bool jump.isNone) W4 ∧ ∃ C4, Jr st jump Iz (pre ++ [x]) C4 W4 ∧ Turned C x C4 W W4 := by
        intro jump st Iz C' W3 hIz hst hz ht
        have hk : ∀ k, k < W2.heap.size → ¬ Cu k → x.val.ownBlock ≠ some k → W3.heap[k]? = W2.heap[k]? := fun k hk h1 h2 => ht.only.block k hk (fun h => h.elim h1 h2)
        have hl3 : W3.heap[B + 1]? = some (.loop { mk .ready none with state := .busy }) := (hk _ (by rw [hs2]; exact hltB) hnB1 (fun e => (hxB _ e).2 rfl)).trans hl2
        have hd3 : W3.heap[B]? = some (.deferred (some [])) := (hk _ (by rw [hs2]; omega) hnB (fun e => (hxB _ e).1 rfl)).trans hd2
        have hend := run_endRound (P := P) jump hl3
        have hn3 : ∀ k, C' k → k ≠ B ∧ k ≠ B + 1 := fun k hc => by
          rcases (ht.own k hc).1 with h | h | h
          · exact ⟨fun e => hnB (e ▸ h), fun e => hnB1 (e ▸ h)⟩
          · exact hxB k h
          · rw [hs2] at h; omega
        have ho4 : Only (fun k => k = B + 1) W3 (W3.putObj (B + 1) (.loop (mk st jump))) := only_putObj _ _ _ _ rfl
        refine ⟨W3.putObj (B + 1) (.loop (mk st jump)), ?_, fun k => C' k ∨ k = B ∨ k = B + 1, ⟨C', fun _ => Iff.rfl, fun hc => (hn3 _ hc).1 rfl, fun hc => (hn3 _ hc).2 rfl, hIz _ _ _ _ hz (ho4.mono fun k _ e hc => (hn3 k hc).2 e), World.putObj_heap_same (Array.getElem?_eq_some_iff.1 hl3).1, (World.putObj_heap_other (by omega)).trans hd3⟩, ?_, ?_⟩
        · rw [hend, hst, hmk]
        · refine (ho2.mono fun k _ e => .inl ((hCu k).2 (.inr (.inr e)))).trans ((ht.only.mono fun k _ h => ?_).trans (G := fun k => k = B + 1) ho4 (fun k _ e => .inr (.inr e))) (fun k _ h => ?_) (G := fun k => Cu k ∨ x.val.ownBlock = some k ∨ k = B + 1)
          · exact h.elim .inl fun h => .inr (.inl h)
          · rcases h with h | h | h
            · exact .inl ((hCu k).2 (.inl h))
            · exact .inr h
            · exact .inl ((hCu k).2 (.inr (.inr h)))
        · intro k hk
          have hsz3 : (W3.putObj (B + 1) (.loop (mk st jump))).heap.size = W3.heap.size := by simp
          rw [hsz3]
          rcases hk with hk | hk | hk
          · have h := ht.own k hk
            refine ⟨?_, h.2⟩
            rcases h.1 with h | h | h
            · exact .inl ((hCu k).2 (.inl h))
            · exact .inr (.inl h)
            · rw [hs2] at h; exact .inr (.inr h)
          · exact ⟨.inl ((hCu k).2 (.inr (.inl hk))), by have := ht.only.size; omega⟩
          · exact ⟨.inl ((hCu k).2 (.inr (.inr hk))), by have := ht.only.size; omega⟩
      rintro e a3 W3 hp
      cases e with
      | normal =>
        obtain ⟨C', hz, ht⟩ := hp
        obtain ⟨W4, hr, C4, hj, ht4⟩ := fin none .ready I C' W3 hI rfl hz ht
        exact ⟨_, W4, hr, .inl ⟨rfl, C4, hj, ht4⟩⟩
      | ret =>
        obtain ⟨C', hz, ht⟩ := hp
        obtain ⟨W4, hr, C4, hj, ht4⟩ := fin (some .ret) .done (Ix .ret) C' W3 (hIx _) rfl hz ht
        exact ⟨_, W4, hr, .inr ⟨rfl, C4, ⟨_, hj⟩, ht4⟩⟩
      | exit id =>
        obtain ⟨C', hz, ht⟩ := hp
        obtain ⟨W4, hr, C4, hj, ht4⟩ := fin (some (.exit id)) .done (Ix (.exit id)) C' W3 (hIx _) rfl hz ht
        exact ⟨_, W4, hr, .inr ⟨rfl, C4, ⟨_, hj⟩, ht4⟩⟩
      | goto t =>
        obtain ⟨C', hz, ht⟩ := hp
        obtain ⟨W4, hr, C4, hj, ht4⟩ := fin (some (.goto t)) .done (Ix (.goto t)) C' W3 (hIx _) rfl hz ht
        exact ⟨_, W4, hr, .inr ⟨rfl, C4, ⟨_, hj⟩, ht4⟩⟩
      | panic ch => exact hp.elim
      | outgrown => exact hp.elim
    · intro k hk
      rcases hk with hk | hk | hk
      · have := hC0 k hk
        exact ⟨by omega, this.2⟩
      · exact ⟨by omega, fun hf => by have := hfoot k hf; omega⟩
      · exact ⟨by omega, fun hf => by have := hfoot k hf; omega⟩
    · rintro e W2 ⟨⟨v, rfl⟩, (⟨xs, C, hS2, ⟨Cu, hCu, hnB, hnB1, hi, hl, hd⟩, hCf⟩ | ⟨pre, C, hS2, ⟨c, Cu, hCu, hnB, hnB1, hi, hl, hd⟩, hCf⟩)⟩
      · have ho : ∀ o, Only (fun k => k = B + 1) W2 (W2.putObj (B + 1) o) := fun o => only_putObj _ _ _ _ rfl
        have hend := run_endLoop (P := P) hl (by rw [hmk]; simp)
        rw [hmk] at hend
        refine ⟨none, _, hend, ?_⟩
        have h := hdone xs Cu (W2.putObj (B + 1) (.loop { mk .ready none with state := .exhausted })) (hS _ _ _ hS2 ((ho _).mono fun k _ e hf => by rw [e] at hf; have := hfoot _ hf; omega)) (hI _ _ _ _ hi ((ho _).mono fun k _ e hc => by rw [e] at hc; exact hnB1 hc)) (fun k hc => hCf k ((hCu k).2 (.inl hc))) (by rw [← hB]; exact (World.putObj_heap_other (by omega)).trans hd)
        rw [hmk, hB] at h
        rw [hB]
        exact h
      · have ho : ∀ o, Only (fun k => k = B + 1) W2 (W2.putObj (B + 1) o) := fun o => only_putObj _ _ _ _ rfl
        have hend := run_endLoop (P := P) hl (by rw [hmk]; simp)
        rw [hmk] at hend
        refine ⟨some c, _, hend, ?_⟩
        have h := hstop c pre Cu (W2.putObj (B + 1) (.loop { mk .done (some c) with state := .exhausted })) (hSp _ _ _ hS2 ((ho _).mono fun k _ e hf => by rw [e] at hf; have := hfoot _ hf; omega)) (hIx _ _ _ _ _ hi ((ho _).mono fun k _ e hc => by rw [e] at hc; exact hnB1 hc)) (fun k hc => hCf k ((hCu k).2 (.inl hc))) (by rw [← hB]; exact (World.putObj_heap_other (by omega)).trans hd)
        rw [hmk, hB] at h
        rw [hB]
        exact h
end Go.Proofs.Ytenommboacjopaa
