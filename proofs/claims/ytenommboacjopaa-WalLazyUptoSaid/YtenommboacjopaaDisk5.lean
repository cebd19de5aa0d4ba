/- (*disk.Disk).Arm and (*wal.Log).Sync by their contracts. -/
import Derived.Test.YtenommboacjopaaDisk4
import Derived.Test.YtenommboacjopaaWal3
namespace Go.Proofs.Ytenommboacjopaa
open Go.RowKit

def Dk.arm (D : Dk) (x : Int) : Dk := { D with armed := if -1 < x then x else -1 }
theorem Dk.arm_ok {D : Dk} (h : DkOk D) {x : Int} (hx : x ≤ 9223372036854775807) : DkOk (D.arm x) :=
  ⟨h.s1, h.s2, h.n1, h.n2, h.len, h.wt, by show -1 ≤ (if _ then _ else _); split <;> omega, by show (if _ then _ else _) ≤ _; split <;> omega, h.cnt⟩

theorem arm_done {w : World} {B b : Nat} {D : Dk} {M : DkM} {x a : Int} (hd : DiskAt w B b D M) (nq : Nat) (ha : (D.arm x).armed = a) (hx : x ≤ 9223372036854775807) :
    RetStep (.int .i64 0) B b M (D.arm x) w (.returned (.int .i64 0)) ((w.drewN nq).setCell ⟨b, 4, none⟩ (.int .i64 a)) := by
  have ho : Only (fun k => k = b) w ((w.drewN nq).setCell ⟨b, 4, none⟩ (.int .i64 a)) := ((Only.refl (fun k => k = b) w).drewN nq).setCell (p := ⟨b, 4, none⟩) (fun _ => rfl) _
  subst ha
  exact ⟨M, rfl, hd.upd ((hd.blk.drewN nq).set_ 4 _) ho rfl rfl (Dk.arm_ok hd.ok hx), ho.mono (fun _ _ h => .inl h), fun _ h => .inl h⟩

set_option maxHeartbeats 400000 in
theorem arm_any (w : World) (B b : Nat) (D : Dk) (M : DkM) (x : Int) (hd : DiskAt w B b D M) (hdead : D.dead = false) (hx : x ≤ 9223372036854775807) :
    Calls Try.prog 56 #[.pointer (some ⟨b, 0, none⟩), .int .i64 x] w (RetStep (.int .i64 0) B b M (D.arm x) w) := by
  have hn1 := hd.ok.n1
  have HZ : Hid (readyZ D 0 = 0) := by show _ = _; rw [readyZ, if_neg (by rw [hdead]; decide), if_neg (by omega)]
  have HD := Lib.hid hd
  have HX := Lib.hid hx
  have c4 := hd.c4
  have f4 := hd.blk.frozen 4
  clear hd hdead hn1 hx
  go_enter Try.func56, Try.ntmps56
  go_wp2_with (go_at_call 77; refine (ready_any _ B b D M _ HD.out).mono ?_; rw [HZ.out]; rintro e w' ⟨rfl, nq, rfl⟩)
  all_goals go_ret
  all_goals (
    refine arm_done HD.out nq ?_ HX.out
    show (if _ then _ else _) = _
    split <;> omega)

/-- (*wal.Log).Sync is the disk's Flush. -/
theorem sync_any (w : World) (B l b : Nat) (D : Dk) (M : DkM) (L : Lg) (tv : Value) (hl : LogAt w B l b L tv) (hd : DiskAt w B b D M) (hdead : D.dead = false) :
    Calls Try.prog 58 #[.pointer (some ⟨l, 0, none⟩)] w (RetStep (.int .i64 0) B b M D.flush w) := by
  have c0 := hl.c0
  have HD := Lib.hid hd
  have HX := Lib.hid hdead
  clear hl hd hdead
  go_enter Try.func58, Try.ntmps58
  go_wp2_with (go_at_call 51; refine (flush_any _ B b D M HD.out HX.out).mono ?_; rintro e w' ⟨M', rfl, hd', ho', hf'⟩; have H1 := Lib.hid hd'; have H2 := Lib.hid ho'; have H3 := Lib.hid hf'; clear hd' ho' hf')
  go_ret
  exact ⟨M', rfl, H1.out, H2.out, H3.out⟩
theorem sync_no (w : World) (B l b : Nat) (D : Dk) (M : DkM) (L : Lg) (tv : Value) (hl : LogAt w B l b L tv) (hd : DiskAt w B b D M) (hdead : D.dead = true) :
    Calls Try.prog 58 #[.pointer (some ⟨l, 0, none⟩)] w (RetQ (.int .i64 10) w) := by
  have c0 := hl.c0
  have HD := Lib.hid hd
  have HX := Lib.hid hdead
  clear hl hd hdead
  go_enter Try.func58, Try.ntmps58
  go_wp2_with (go_at_call 51; refine (flush_no _ B b D M HD.out HX.out).mono ?_; rintro e w' ⟨rfl, nq, rfl⟩)
  go_ret
  exact ⟨rfl, nq, rfl⟩
end Go.Proofs.Ytenommboacjopaa
