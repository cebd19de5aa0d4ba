/- arborlaw5.play without a loss of power, without syncs, by its contract. -/
import Derived.Test.YtenommboacjopaaStream2
import Derived.Test.YtenommboacjopaaDisk5
namespace Go.Proofs.Ytenommboacjopaa
open Go.RowKit

/-- The records that are taken, and how many bytes they use, of those so far. -/
def tookStep (cap : Nat) (st : Nat × List (List UInt8)) (r : List UInt8) : Nat × List (List UInt8) :=
  if 1 ≤ r.length ∧ r.length ≤ 1024 ∧ st.1 + 2 + r.length ≤ cap then (st.1 + 2 + r.length, st.2 ++ [r]) else st
def took (cap : Nat) (rs : List (List UInt8)) : Nat × List (List UInt8) := rs.foldl (tookStep cap) (0, [])
theorem took_snoc (cap : Nat) (rs : List (List UInt8)) (r : List UInt8) : took cap (rs ++ [r]) = tookStep cap (took cap rs) r := by simp [took]

/-- Append on a good disk whose waiting writes are the stream S. -/
structure Runs (B b l : Nat) (nN sizeN firstN countN epochN : Nat) (durN : List UInt8) (w : World) (M0 : DkM) (D : Dk) (M : DkM) (L : Lg) (tv : Value) (S : List UInt8) (wr : World) : Prop where
  dk : DiskAt wr B b D M
  log : LogAt wr B l b L tv
  sep : Sep M b tv
  good : Good D
  below : Below B w wr
  n : D.n = nN
  size : D.size = sizeN
  dur : D.dur = durN
  first : L.first = firstN
  count : L.count = countN
  room : L.room = sizeN - 17
  ep : L.epoch = epochN
  cnt : D.wait.length ≤ L.used
  has : LogHas firstN epochN (sizeN - 17) D S L.at_ L.tail
  lnew : w.heap.size ≤ l
theorem Runs.turn {B b l nN sizeN firstN countN epochN : Nat} {durN : List UInt8} {w wr wr' : World} {M0 : DkM} {D : Dk} {M : DkM} {L : Lg} {tv : Value} {S : List UInt8} (h : Runs B b l nN sizeN firstN countN epochN durN w M0 D M L tv S wr) (hB : B ≤ wr.heap.size) (hb : Below wr.heap.size wr wr') :
    Runs B b l nN sizeN firstN countN epochN durN w M0 D M L tv S wr' :=
  ⟨h.dk.below hb, h.log.below hb, h.sep, h.good, h.below.trans (hb.mono hB), h.n, h.size, h.dur, h.first, h.count, h.room, h.ep, h.cnt, h.has, h.lnew⟩
theorem Runs.used_eq {B b l nN sizeN firstN countN epochN : Nat} {durN : List UInt8} {w wr : World} {M0 : DkM} {D : Dk} {M : DkM} {L : Lg} {tv : Value} {S : List UInt8} (h : Runs B b l nN sizeN firstN countN epochN durN w M0 D M L tv S wr) : L.used = S.length := by
  have h1 := h.has.len
  rw [← h.room] at h1
  exact h1
theorem Runs.took {B b l nN sizeN firstN countN epochN : Nat} {durN : List UInt8} {w wr w' : World} {M0 : DkM} {D : Dk} {M : DkM} {L : Lg} {tv : Value} {S : List UInt8} (h : Runs B b l nN sizeN firstN countN epochN durN w M0 D M L tv S wr) {e0 : List UInt8} {e : Ending} (hr : RetApp B l b D M L tv e0 wr e w') :
    e = .returned (.int .i64 0) ∧ ∃ D' M' L' tv', Runs B b l nN sizeN firstN countN epochN durN w M0 D' M' L' tv' (S ++ e0) w' ∧ Only (fun k => k = l ∨ M.foot b k) wr w' ∧ L'.cnt = L.cnt + 1 := by
  obtain ⟨D', z, at_, tail, M', L', tv', heq, rfl, hd, hL, hl, hs, ho, hf, ht⟩ := hr
  have hhas := h.has
  rw [← h.first, ← h.ep, ← h.room] at hhas
  obtain ⟨D2, at2, tail2, h1, h2, h3, h4, h5, h6⟩ := LogHas.app_ _ D S L.tail e0 L.at_ rfl h.good hhas
  obtain ⟨D3, at3, tail3, g1, _, _, _, g5, g6⟩ := app_good L.first L.epoch L.room (by have := h.log.ok.r1; omega) _ D L.at_ L.tail e0 rfl h.log.ok.t h.good
  rw [h1] at heq g1
  injection heq with e1 heq
  injection heq with e2 heq
  injection heq with e3 e4
  injection g1 with i1 g1
  injection g1 with i2 g1
  injection g1 with i3 i4
  subst e1; subst e2; subst e3; subst e4; subst i1; subst i3; subst i4
  rw [if_pos rfl] at hL
  subst hL
  rw [h.first, h.ep, h.room] at h6
  refine ⟨rfl, D2, M', _, tv', ⟨hd, hl, hs, h2, ?_, by rw [h4, h.n], by rw [h3, h.size], by rw [h5, h.dur], h.first, h.count, h.room, h.ep, ?_, h6, h.lnew⟩, ho, rfl⟩
  · refine h.below.trans ⟨ho.os, ho.tape, ho.output, ho.size, fun k hk => ?_⟩
    rcases Nat.lt_or_ge k wr.heap.size with hlt | hge
    · refine ho.block k hlt ?_
      rintro (rfl | hfk)
      · exact absurd hk (by have := h.log.Bl; omega)
      · exact absurd hk (by have := (h.dk.foot_lt hfk).1; omega)
    · exact absurd hk (by have := h.dk.Bb; have := h.dk.blk.lt; omega)
  · have hc := h.cnt
    have hu : ({ L with at_ := at2, tail := tail2, cnt := L.cnt + 1 } : Lg).used = L.used + e0.length := g5
    rw [hu]; omega

theorem DiskAt.not_foot {w : World} {B b g : Nat} {D : Dk} {M : DkM} {t : TypeId} {cs : Array Value} (h : DiskAt w B b D M) (hg : Blk w g t cs) (h1 : t ≠ 110) (h2 : t ≠ 5) (h3 : t ≠ 120) : ¬ M.foot b g := by
  rintro (rfl | rfl | rfl | hv | hx)
  · exact hg.ne_ h.blk h1 rfl
  · exact hg.ne_ h.dur h2 rfl
  · exact h.map.not_blk hg rfl
  · exact own_blk_ne h.row hg (Ne.symm h3) hv
  · obtain ⟨i, hi, rfl⟩ := List.mem_iff_getElem.1 hx
    have hl := h.len
    exact hg.ne_ (h.bytes i D.wait[i] M.gs[i] (List.getElem?_eq_getElem (by omega)) (List.getElem?_eq_getElem hi)) h2 rfl

/-- Append, whatever the record, on a good disk. -/
def RetRun (B b l : Nat) (nN sizeN firstN countN epochN : Nat) (durN : List UInt8) (w : World) (M0 M : DkM) (cN : Nat) (S rec : List UInt8) (wr : World) (e : Ending) (w' : World) : Prop :=
  ∃ z D' M' L' tv' S', e = .returned (.int .i64 z) ∧ Runs B b l nN sizeN firstN countN epochN durN w M0 D' M' L' tv' S' w' ∧ Only (fun k => k = l ∨ M.foot b k) wr w' ∧
    ((z = 0 ∧ S' = S ++ (leB rec.length 2 ++ rec) ∧ 1 ≤ rec.length ∧ rec.length ≤ 1024 ∧ S.length + 2 + rec.length ≤ countN * (sizeN - 17) ∧ L'.cnt = cN + 1) ∨ (z ≠ 0 ∧ z ≠ 10 ∧ S' = S ∧ ¬ (1 ≤ rec.length ∧ rec.length ≤ 1024 ∧ S.length + 2 + rec.length ≤ countN * (sizeN - 17)) ∧ L'.cnt = cN))
theorem append_run (B b l nN sizeN firstN countN epochN : Nat) (durN : List UInt8) (w wr : World) (M0 : DkM) (D : Dk) (M : DkM) (L : Lg) (tv : Value) (S : List UInt8) (h : Runs B b l nN sizeN firstN countN epochN durN w M0 D M L tv S wr) (hB : B ≤ wr.heap.size) (A : Option Addr) (n c : Nat) (bs : List UInt8) (hr : RdB wr A n bs) (hN : firstN + countN ≤ nN) (hs : 32 ≤ sizeN) :
    Calls Try.prog 14 #[.pointer (some ⟨l, 0, none⟩), .slice A n c] wr (RetRun B b l nN sizeN firstN countN epochN durN w M0 M L.cnt S bs wr) := by
  obtain rfl := hr.blen
  have hus := h.used_eq
  have hru := rest_used h.log.ok
  rw [h.count, h.room, hus] at hru
  by_cases h1 : bs.length < 1 ∨ 1024 < bs.length
  · refine (append_bad wr l A _ c h1).mono ?_
    rintro e w' ⟨rfl, nq, rfl⟩
    exact ⟨51, D, M, L, tv, S, rfl, h.turn hB (below_drewN (Below.refl _ _) _), (Only.refl _ _).drewN nq, .inr ⟨by decide, by decide, rfl, fun x => by omega, rfl⟩⟩
  · have h2 : 1 ≤ bs.length := by omega
    have h3 : bs.length ≤ 1024 := by omega
    by_cases h4 : L.restN < 2 + bs.length
    · refine (append_full wr B l b L tv A _ c h.log h2 h3 h4).mono ?_
      rintro e w' ⟨rfl, nq, rfl⟩
      exact ⟨50, D, M, L, tv, S, rfl, h.turn hB (below_drewN (Below.refl _ _) _), (Only.refl _ _).drewN nq, .inr ⟨by decide, by decide, rfl, fun x => by omega, rfl⟩⟩
    · have hc := h.cnt
      have h5 : L.count * L.room ≤ 64 * 1007 := Nat.mul_le_mul h.log.ok.c h.log.ok.r2
      rw [h.count, h.room] at h5
      refine (append_any wr B l b D M L tv A _ c bs h.log h.dk h.sep (by rw [h.size, h.room]; omega) (by rw [h.first, h.count, h.n]; exact hN) hr h2 h3 (by omega) (by omega)).mono ?_
      intro e w' hx
      obtain ⟨rfl, D', M', L', tv', hl, ho, hcn⟩ := h.took hx
      exact ⟨0, D', M', L', tv', _, rfl, hl, ho, .inl ⟨rfl, rfl, h2, h3, by omega, hcn⟩⟩

/-- Blocks are turned that are neither the disk's nor the log's. -/
theorem Runs.only {B b l nN sizeN firstN countN epochN : Nat} {durN : List UInt8} {w wr wr' : World} {M0 : DkM} {D : Dk} {M : DkM} {L : Lg} {tv : Value} {S : List UInt8} {F : Nat → Prop} (h : Runs B b l nN sizeN firstN countN epochN durN w M0 D M L tv S wr) (hB : B ≤ wr.heap.size) (ho : Only F wr wr')
    (h1 : ∀ k, M.foot b k → ¬ F k) (h2 : ¬ F l) (h3 : ∀ g, tv.ownBlock = some g → ¬ F g) (h4 : ∀ k, F k → B ≤ k) : Runs B b l nN sizeN firstN countN epochN durN w M0 D M L tv S wr' :=
  ⟨h.dk.only ho h1, h.log.only ho h2 h3, h.sep, h.good, h.below.trans (ho.below h4 hB), h.n, h.size, h.dur, h.first, h.count, h.room, h.ep, h.cnt, h.has, h.lnew⟩
/-- A row's block as a known block. -/
theorem own_blk {w : World} {base : Nat} {e : TypeId} {size : Nat} {v : Value} {n : Nat} {xs : List Value} (h : w.ownsRow base e size v n xs) {g : Nat} (hg : v.ownBlock = some g) : ∃ cs, Blk w g e cs := by
  rcases h.2 with ⟨rfl, _⟩ | ⟨g', cap, cur, rfl, _, hh, _⟩
  · cases hg
  · have : g' = g := by simpa [Value.ownBlock] using hg
    subst this
    exact ⟨cur, hh⟩
end Go.Proofs.Ytenommboacjopaa
