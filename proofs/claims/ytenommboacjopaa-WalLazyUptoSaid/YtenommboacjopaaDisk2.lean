/- (*disk.Disk).Read by its contract. -/
import Derived.Test.YtenommboacjopaaDisk1
namespace Go.Proofs.Ytenommboacjopaa
open Go.RowKit

/-- What Read hands back of a sector that is there. -/
def RetRead (B b : Nat) (M : DkM) (D : Dk) (k : Nat) (w : World) (e : Ending) (w' : World) : Prop :=
  ∃ g, w.heap.size ≤ g ∧ e = .returned (.tuple #[.slice (some ⟨g, 0, none⟩) D.size D.size, .int .i64 0]) ∧ BlkB w' g (D.holds k) ∧ DiskAt w' B b { D with rd := D.rd + 1 } M ∧ Only (fun j => j = b) w w'

theorem dk_rd {D : Dk} (h : DkOk D) : DkOk { D with rd := D.rd + 1 } := ⟨h.s1, h.s2, h.n1, h.n2, h.len, h.wt, h.a1, h.a2, h.cnt⟩

set_option maxRecDepth 100000 in
set_option maxHeartbeats 1000000 in
theorem read_any (w : World) (B b : Nat) (D : Dk) (M : DkM) (k : Nat) (hd : DiskAt w B b D M) (hdead : D.dead = false) (hk : k < D.n) :
    Calls Try.prog 102 #[.pointer (some ⟨b, 0, none⟩), .int .i64 (k : Int)] w (RetRead B b M D k w) := by
  have HZ : Hid (readyZ D (k : Int) = 0) := by show _ = _; rw [readyZ, if_neg (by rw [hdead]; decide), if_neg (by omega)]
  have c3 := hd.c3
  have c6 := hd.c6
  have f6 := hd.blk.frozen 6
  have HD := Lib.hid hd
  have HX := Lib.hid hdead
  clear hd hdead
  go_enter Try.func102, Try.ntmps102
  go_wp2_with (first
    | (go_at_call 77; refine (ready_any _ B b D M _ HD.out).mono ?_; rw [HZ.out]; rintro e w' ⟨rfl, nq, rfl⟩)
    | (at_lookup; refine at_world_list ?_))
  intro W hW
  have HO : Hid (Only (fun j => j = b) w W) := by
    rw [hW.out]
    exact ((Only.refl (fun j => j = b) w).drewN nq).setCell (p := ⟨b, 6, none⟩) (fun _ => rfl) _
  have HD2 : Hid (DiskAt W B b { D with rd := D.rd + 1 } M) := by
    refine HD.out.upd (D' := { D with rd := D.rd + 1 }) ?_ HO.out rfl rfl (dk_rd HD.out.ok)
    rw [hW.out]
    have h := (HD.out.blk.drewN nq).set_ 6 (.int .i64 (wrap64 (wrap64 ↑D.rd + 1)))
    rw [wrap64_step] at h ⊢
    exact h
  clear hW c3 c6 f6
  rcases latest_lastW D.wait k with ⟨hl1, hl2⟩ | ⟨i, p, hl1, hi, hp, hl2⟩
  · have HH : Hid (D.holds k = (D.dur.drop (k * D.size)).take D.size) := by show _ = _; rw [Dk.holds, hl2]; rfl
    have c0 := HD2.out.c0
    have c1 := HD2.out.c1
    have HL := Lib.hid hl1
    clear hl1 hl2
    refine wpList_ilookup rfl (.tmp 28) (.tmp 29) 108 rfl Try.underlying108 Try.underlying3 (Try.zeroValue3 _) M.gm (latest D.wait) (k : Int) rfl rfl HD2.out.map ?_
    rw [HL.out]
    go_wp2_with fail
    obtain ⟨a, e, N, HAe, HEe, HNe, hka, hkb, hwa, hwe, hs1, hs2, hs3, hs4, hkk, hs5, hs6⟩ := sector_nums hk HD2.out.ok.n2 HD2.out.ok.s1 HD2.out.ok.s2
    rw [show D.n * D.size = N from HNe.out.symm] at c1
    refine still_tail 18 (by kernel_rfl) (by kernel_rfl) ?_
    intro W2 hW2
    have c0' : W2.cell? ⟨b, 0, none⟩ = some (.int .i64 (D.size : Int)) := by rw [hW2.out]; exact c0
    have c1' : W2.cell? ⟨b, 1, none⟩ = some (.slice (some ⟨M.gd, 0, none⟩) N N) := by rw [hW2.out]; exact c1
    have HD3 : Hid (DiskAt W2 B b { D with rd := D.rd + 1 } M) := by rw [hW2.out]; exact HD2.out.drew
    have HO3 : Hid (Only (fun j => j = b) w W2) := by rw [hW2.out]; exact HO.out.drew
    clear hW2 c0 c1
    simp only [List.take_succ_cons, List.take_zero, List.drop_succ_cons, List.drop_zero]
    repeat still_step
    refine wpStill_nil ?_
    go_wp2_with fail
    have hes : e - a = D.size := by rw [HEe.out]; omega
    rw [hes]
    have HR : Hid (RdB W2 (some ⟨M.gd, a, none⟩) D.size ((D.dur.drop a).take D.size)) := by
      refine HD3.out.dur.rdB ?_
      have h1 : e ≤ N := by omega
      have h2 := HD3.out.ok.len
      have h3 := HNe.out
      show a + D.size ≤ D.dur.length
      rw [show D.dur.length = D.n * D.size from h2, ← h3, ← HEe.out]
      exact h1
    refine (clone_any _ _ _ _ _ HR.out (by have := HD3.out.ok.s2; have h : D.size ≤ 1024 := this; omega)).mono ?_
    rintro e2 W3 ⟨rfl, hW3⟩
    have HW3 := Lib.hid hW3
    clear hW3
    go_wp2
    go_ret2
    refine ⟨W2.heap.size, HO3.out.size, rfl, ?_, ?_, ?_⟩
    · rw [HH.out, ← HW3.out, ← HAe.out]; exact Blk.new _ _ _
    · rw [← HW3.out]; exact HD3.out.below ((Below.refl _ _).alloc (Nat.le_refl _) _)
    · rw [← HW3.out]; exact HO3.out.alloc _
  · have HH : Hid (D.holds k = p.2) := by show _ = _; rw [Dk.holds, hl2]; rfl
    obtain ⟨r, cap, g, hv, hcap, hg, hb, hc1, hc2⟩ := HD2.out.row_at hi
    have c2 := HD2.out.c2
    rw [hv] at c2
    have hps : p.2.length = D.size := (HD2.out.ok.wt p (List.mem_of_getElem? hi)).2
    rw [hps] at hc2
    have hilt : i < D.wait.length := (List.getElem?_eq_some_iff.1 hi).1
    have HL := Lib.hid hl1
    have HB := Lib.hid hb
    have HP := Lib.hid hps
    clear hl1 hl2 hv hg hb hp hi hps hc1
    refine wpList_ilookup rfl (.tmp 28) (.tmp 29) 108 rfl Try.underlying108 Try.underlying3 (Try.zeroValue3 _) M.gm (latest D.wait) (k : Int) rfl rfl HD2.out.map ?_
    rw [HL.out]
    go_wp2_with fail
    have HR : Hid (RdB W (some ⟨g, 0, none⟩) D.size p.2) := by
      have h := HB.out.rdB (off := 0) (n := D.size) (by rw [HP.out]; omega)
      rw [List.drop_zero, List.take_of_length_le (by rw [HP.out]; omega)] at h
      exact h
    refine (clone_any _ _ _ _ _ HR.out (by have := HD2.out.ok.s2; have h : D.size ≤ 1024 := this; omega)).mono ?_
    rintro e2 W3 ⟨rfl, hW3⟩
    have HW3 := Lib.hid hW3
    clear hW3
    go_wp2
    go_ret2
    refine ⟨W.heap.size, HO.out.size, rfl, ?_, ?_, ?_⟩
    · rw [HH.out, ← HW3.out]; exact Blk.new _ _ _
    · rw [← HW3.out]; exact HD2.out.below ((Below.refl _ _).alloc (Nat.le_refl _) _)
    · rw [← HW3.out]; exact HO.out.alloc _

set_option maxRecDepth 100000 in
set_option maxHeartbeats 1000000 in
theorem read_no (w : World) (B b : Nat) (D : Dk) (M : DkM) (k z : Int) (hd : DiskAt w B b D M) (hz : readyZ D k = z) (hz0 : z ≠ 0) :
    Calls Try.prog 102 #[.pointer (some ⟨b, 0, none⟩), .int .i64 k] w (RetQ (.tuple #[.slice none 0 0, .int .i64 z]) w) := by
  have hb : (z != 0) = true := by simpa using hz0
  have HD := Lib.hid hd
  have HZ := Lib.hid hz
  clear hd hz hz0
  go_enter Try.func102, Try.ntmps102
  go_wp2_with (go_at_call 77; refine (ready_any _ B b D M _ HD.out).mono ?_; rw [HZ.out]; rintro e w' ⟨rfl, nq, rfl⟩)
  go_ret2
  exact ⟨rfl, nq, rfl⟩
end Go.Proofs.Ytenommboacjopaa
