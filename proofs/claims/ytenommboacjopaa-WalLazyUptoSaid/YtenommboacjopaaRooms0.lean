/- What Append does on a disk that has power: a record that fits is taken whole. No program. -/
import Derived.Test.YtenommboacjopaaBent
namespace Go.Proofs.Ytenommboacjopaa
open Go.RowKit

/-- A disk with power that is not armed. -/
structure Good (D : Dk) : Prop where
  dead : D.dead = false
  armed : D.armed = -1
theorem Good.putZ {D : Dk} (h : Good D) : D.putZ = 0 := by simp [Dk.putZ, Dk.writeZ, h.dead, h.armed]
theorem Good.put {D : Dk} (h : Good D) (k : Nat) (bs : List UInt8) : Good (D.put k bs) := by
  have e1 := h.dead
  have e2 := h.armed
  constructor <;> simp [Dk.put, Dk.write, e1, e2]

theorem app_good (first epoch room : Nat) (hr : 0 < room) : ∀ (n : Nat) (D : Dk) (at_ : Nat) (tail entry : List UInt8), entry.length = n → tail.length < room → Good D →
    ∃ D' at' tail', app first epoch room D at_ tail entry = (D', 0, at', tail') ∧ Good D' ∧ D'.size = D.size ∧ D'.n = D.n ∧ at' * room + tail'.length = at_ * room + tail.length + entry.length ∧ D'.wait.length ≤ D.wait.length + entry.length := by
  intro n
  induction n using Nat.strongRecOn with
  | _ n ih =>
    intro D at_ tail entry hn ht hg
    rcases Nat.eq_zero_or_pos entry.length with he | he
    · have : entry = [] := List.eq_nil_of_length_eq_zero he
      subst this
      exact ⟨D, at_, tail, app_nil _ _ _ _ _ _, hg, rfl, rfl, by simp, by simp⟩
    · obtain ⟨nn, hnn⟩ : ∃ nn, nn = min entry.length (room - tail.length) := ⟨_, rfl⟩
      have hl1 : (tail ++ entry.take nn).length = tail.length + nn := by rw [List.length_append, List.length_take]; omega
      have hl2 : (entry.drop nn).length = entry.length - nn := List.length_drop
      have hw := Dk.put_wait D (first + at_) (lSec D.size epoch at_ (tail ++ entry.take nn))
      rw [app_on hnn he ht hg.putZ]
      split
      · rename_i hf
        obtain ⟨D', at', tail', h1, h2, h3, h4, h5, h6⟩ := ih (entry.length - nn) (by omega) (D.put (first + at_) (lSec D.size epoch at_ (tail ++ entry.take nn))) (at_ + 1) [] (entry.drop nn) hl2 hr (hg.put _ _)
        rw [Dk.put_size] at h3
        rw [Dk.put_n] at h4
        refine ⟨D', at', tail', h1, h2, h3, h4, ?_, by omega⟩
        rw [h5, hl2, Nat.succ_mul]
        simp only [List.length_nil]
        omega
      · rename_i hf
        obtain ⟨D', at', tail', h1, h2, h3, h4, h5, h6⟩ := ih (entry.length - nn) (by omega) (D.put (first + at_) (lSec D.size epoch at_ (tail ++ entry.take nn))) at_ (tail ++ entry.take nn) (entry.drop nn) hl2 (by omega) (hg.put _ _)
        rw [Dk.put_size] at h3
        rw [Dk.put_n] at h4
        refine ⟨D', at', tail', h1, h2, h3, h4, ?_, by omega⟩
        rw [h5, hl2]
        omega

theorem rest_used {L : Lg} (h : LgOk L) : L.restN + L.used = L.count * L.room := by
  obtain ⟨x, hx, hx1, hx2, hx3, hx4⟩ := lg_nums h
  have h1 := h.a
  have h3 : L.at_ * L.room ≤ L.count * L.room := Nat.mul_le_mul_right _ h1
  have hx' : (L.count - L.at_) * L.room = x := by
    have : (((L.count - L.at_) * L.room : Nat) : Int) = (x : Int) := by rw [Int.natCast_mul, ← hx4]; exact hx
    omega
  rw [Nat.sub_mul] at hx'
  unfold Lg.used
  omega

/-- What goes with a log on a good disk, through a run of records. -/
structure Live (w : World) (b l : Nat) (nN sizeN firstN countN epochN : Nat) (D : Dk) (M : DkM) (L : Lg) (tv : Value) (wr : World) : Prop where
  dk : DiskAt wr w.heap.size b D M
  log : LogAt wr w.heap.size l b L tv
  sep : Sep M b tv
  good : Good D
  below : Below w.heap.size w wr
  n : D.n = nN
  size : D.size = sizeN
  first : L.first = firstN
  count : L.count = countN
  room : L.room = sizeN - 17
  ep : L.epoch = epochN
  cnt : D.wait.length ≤ L.used
theorem Live.used_le {w wr : World} {b l n size first count epoch : Nat} {D : Dk} {M : DkM} {L : Lg} {tv : Value} (h : Live w b l n size first count epoch D M L tv wr) : L.used ≤ 64448 := by
  have h1 := rest_used h.log.ok
  have h2 : L.count * L.room ≤ 64 * 1007 := Nat.mul_le_mul h.log.ok.c h.log.ok.r2
  omega
theorem Live.turn {w wr wr' : World} {b l n size first count epoch : Nat} {D : Dk} {M : DkM} {L : Lg} {tv : Value} (h : Live w b l n size first count epoch D M L tv wr) (hb : Below wr.heap.size wr wr') : Live w b l n size first count epoch D M L tv wr' :=
  ⟨h.dk.below hb, h.log.below hb, h.sep, h.good, h.below.trans (hb.mono h.below.size), h.n, h.size, h.first, h.count, h.room, h.ep, h.cnt⟩

/-- A record that fits is taken. -/
theorem Live.took {w wr w' : World} {b l n size first count epoch : Nat} {D : Dk} {M : DkM} {L : Lg} {tv : Value} (h : Live w b l n size first count epoch D M L tv wr) {e0 : List UInt8} {e : Ending} (hlt : l < wr.heap.size) (hr : RetApp w.heap.size l b D M L tv e0 wr e w') :
    e = .returned (.int .i64 0) ∧ ∃ D' M' L' tv', Live w b l n size first count epoch D' M' L' tv' w' ∧ L'.used = L.used + e0.length := by
  obtain ⟨D', z, at_, tail, M', L', tv', heq, rfl, hd, hL, hl, hs, ho, hf, ht⟩ := hr
  obtain ⟨D2, at2, tail2, h1, h2, h3, h4, h5, h6⟩ := app_good L.first L.epoch L.room (by have := h.log.ok.r1; omega) _ D L.at_ L.tail e0 rfl h.log.ok.t h.good
  rw [h1] at heq
  injection heq with e1 heq
  injection heq with e2 heq
  injection heq with e3 e4
  subst e1; subst e2; subst e3; subst e4
  rw [if_pos rfl] at hL
  subst hL
  have hu : ({ L with at_ := at2, tail := tail2, cnt := L.cnt + 1 } : Lg).used = L.used + e0.length := h5
  refine ⟨rfl, D2, M', _, tv', ⟨hd, hl, hs, h2, ?_, by rw [h4, h.n], by rw [h3, h.size], h.first, h.count, h.room, h.ep, ?_⟩, hu⟩
  · refine h.below.trans ⟨ho.os, ho.tape, ho.output, ho.size, fun k hk => ho.block k (Nat.lt_of_lt_of_le hk h.below.size) ?_⟩
    rintro (rfl | hfk)
    · exact absurd hk (by have := h.log.Bl; omega)
    · exact absurd hk (by have := (h.dk.foot_lt hfk).1; omega)
  · rw [hu]; have := h.cnt; omega
end Go.Proofs.Ytenommboacjopaa
