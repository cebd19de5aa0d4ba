/- Contracts of the small functions on bytes: arborref0.CopyBytes, EqBytes, disk.clone, bytes.Clone. -/
import Derived.Test.YtenommboacjopaaRows
import Derived.Test.YtenommboacjopaaLaws
import Derived.WalkKit
import Derived.WalkSpells
import Derived.WalkLawsBesides
import Derived.Deep.QuietTactic
import Derived.BigQuiet
import Derived.Maps.AppendAt
import Derived.Laws.CopyOwn
namespace Go.Proofs.Ytenommboacjopaa
open Go.RowKit

theorem infoU8 : (Try.prog.info? 5).map (fun i => (i.zero, i.size, i.bytes)) = some (some (.int .u8 0), 1, 1) := by kernel_rfl

/-- What a call hands back that makes a slice of bytes: a row of its own; nothing that lay is turned. -/
def RetB (w : World) (bs : List UInt8) (e : Ending) (w' : World) : Prop :=
  ∃ A c, e = .returned (.slice A bs.length c) ∧ w'.ownsRow w.heap.size 5 1 (.slice A bs.length c) bs.length (bs.map bv) ∧ Below w.heap.size w w'

theorem own_slice {w : World} {base : Nat} {e : TypeId} {size : Nat} {v : Value} {n : Nat} {xs : List Value} (h : w.ownsRow base e size v n xs) : ∃ A c, v = .slice A n c := by
  rcases h.2 with ⟨rfl, rfl⟩ | ⟨g, cap, cur, rfl, _⟩
  · exact ⟨none, 0, rfl⟩
  · exact ⟨_, cap, rfl⟩

theorem take_snoc {bs : List UInt8} {k : Nat} {b : UInt8} (h : bs[k]? = some b) : (bs.take (k + 1)).map bv = (bs.take k).map bv ++ [.int .u8 (b.toNat : Int)] := by
  obtain ⟨hk, rfl⟩ := List.getElem?_eq_some_iff.1 h
  rw [List.take_succ_eq_append_getElem hk, List.map_append]
  rfl

set_option maxHeartbeats 400000 in
theorem copy_any (A : Option Addr) (n c : Nat) (bs : List UInt8) (w : World) (hr : RdB w A n bs) (hnc : n ≤ 140737488355328) :
    Calls Try.prog 15 #[.slice A n c] w (RetB w bs) := by
  have hlen := hr.blen
  subst hlen
  have HR := Lib.hid hr
  clear hr
  obtain ⟨i0, hi, hz0, hz1, hz2⟩ := info_parts infoU8
  go_enter Try.func15, Try.ntmps15
  go_wp2
  go_loopw [3, 4] (fun v i wr => ∃ k : Nat, k ≤ bs.length ∧ i = .int .i64 k ∧ wr.ownsRow w.heap.size 5 1 v k ((bs.take k).map bv) ∧ Below w.heap.size w wr)
    (fun _ i _ => bs.length - (intOf i).toNat)
  case atStart => exact ⟨0, Nat.zero_le _, rfl, World.ownsRow_nil _ _ _ _, Below.refl _ _⟩
  case round =>
    obtain ⟨k, hk, rfl, hown, hb⟩ := hrel
    by_cases hlt : k < bs.length
    · obtain ⟨ad, b, rfl, _, hx, hc⟩ := (HR.out.below hb).byte hlt
      have hsz := hb.size
      go_wp2_with (first
        | (at_builtin; (refine wpList_append_own _ rfl _ _ 36 rfl w.heap.size 5 i0 (.int .u8 0) 1 1 Try.underlying36 hi hz0 hz1 hz2 rfl (by decide) _ _ _ rfl (hown.alloc _) ⟨wr.heap.size, 0, none⟩ 1 1 [.int .u8 (b.toNat : Int)] rfl rfl (cell_one_new _ _ _) (by simp [Value.oneCell']) (by unfold maxLen; omega) (by omega) (by simp; omega) ?_); intro v' w1 hown' hg' _))
      have hb1 : Below w.heap.size w w1 := (hb.alloc hsz _).grown hg' (by simp; omega) (fun g e => (hown.lt g e).1)
      rw [← take_snoc hx.out] at hown'
      clear hg' hown
      go_wp2
      go_roundw
      case rel => exact ⟨k + 1, by omega, by go_num, hown', hb1⟩
      case measure => simp [intOf]; omega
    · obtain rfl : k = bs.length := by omega
      obtain ⟨A', c', rfl⟩ := own_slice hown
      rw [List.take_length] at hown
      go_wp2
      go_ret
      exact ⟨A', c', rfl, hown, hb⟩

/-- Two slices of bytes are held against one another. -/
def RetEq (w : World) (b : Bool) (e : Ending) (w' : World) : Prop := e = .returned (.bool b) ∧ ∃ n, w' = w.drewN n

theorem take_eq_snoc {xs ys : List UInt8} {k : Nat} {x y : UInt8} (hx : xs[k]? = some x) (hy : ys[k]? = some y) (h : xs.take k = ys.take k) (e : x = y) : xs.take (k + 1) = ys.take (k + 1) := by
  obtain ⟨h1, rfl⟩ := List.getElem?_eq_some_iff.1 hx
  obtain ⟨h2, rfl⟩ := List.getElem?_eq_some_iff.1 hy
  rw [List.take_succ_eq_append_getElem h1, List.take_succ_eq_append_getElem h2, h, e]

theorem u8_ne {x y : UInt8} (h : x ≠ y) : ((x.toNat : Int) != (y.toNat : Int)) = true := by
  have : x.toNat ≠ y.toNat := fun e => h (UInt8.toNat_inj.1 e)
  simp only [bne_iff_ne, ne_eq]; omega
theorem drewN2 (w : World) (j n : Nat) : (w.drewN j).drewN n = w.drewN (j + n) := by simp only [World.drewN_drewN]
theorem no_eq {xs ys : List UInt8} {k : Nat} {x y : UInt8} (hx : xs[k]? = some x) (hy : ys[k]? = some y) (h : ¬ x = y) : false = decide (xs = ys) := by
  rw [eq_comm, decide_eq_false_iff_not]; rintro rfl; exact h (Option.some.inj (hx.symm.trans hy))
theorem yes_eq {xs ys : List UInt8} (hl : xs.length = ys.length) (h : xs.take xs.length = ys.take xs.length) : true = decide (xs = ys) := by
  rw [List.take_length, hl, List.take_length] at h; simp [h]
theorem no_eq_len {xs ys : List UInt8} (hl : ¬ xs.length = ys.length) : false = decide (xs = ys) := by
  rw [eq_comm, decide_eq_false_iff_not]; rintro rfl; exact hl rfl
theorem RetEq.of {w w' : World} {b b' : Bool} {n : Nat} (hb : b' = b) (hw : w' = w.drewN n) : RetEq w b (.returned (.bool b')) w' := by
  subst hb; exact ⟨rfl, n, hw⟩

theorem oneU8 : (Try.prog.info? 5).map (·.size) = some 1 := by kernel_rfl

set_option maxHeartbeats 400000 in
/-- disk.clone: the world written out. -/
theorem clone_any (A : Option Addr) (n c : Nat) (bs : List UInt8) (w : World) (hr : RdB w A n bs) (hnc : n ≤ 140737488355328) :
    Calls Try.prog 47 #[.slice A n c] w (RetW (.slice (some ⟨w.heap.size, 0, none⟩) n n) (w.alloc (.cells (bs.map bv).toArray 5))) := by
  have HR := Lib.hid hr
  have HN := Lib.hid hnc
  clear hr hnc
  obtain ⟨i0, hi, hz0, hz1, hz2⟩ := info_parts infoU8
  go_enter Try.func47, Try.ntmps47
  have H1 : Hid (1 * n ≤ 281474976710656) := by have := HN.out; show 1 * n ≤ _; omega
  have H2 : Hid (n ≤ maxLen) := by have := HN.out; show n ≤ _; unfold maxLen; omega
  go_wp2_with (first | (at_make; refine wpList_make_row _ rfl (.tmp 5) (.tmp 5) 36 rfl 5 i0 (.int .u8 0) 1 Try.underlying36 hi hz0 hz1 hz2 rfl .i64 .i64 n n n rfl rfl rfl rfl H1.out H2.out ?_) | (with_reducible refine wpList_copy_new w rfl (.tmp 7) (.tmp 8) 36 36 rfl 5 Try.underlying36 oneU8 _ n n A c (bs.map bv) rfl rfl (by simp) HR.out (map_bv_one _) ?_))
  go_ret
  exact ⟨rfl, rfl⟩

set_option maxHeartbeats 400000 in
/-- bytes.Clone. -/
theorem bclone_any (A : Option Addr) (n c : Nat) (bs : List UInt8) (w : World) (hr : RdB w A n bs) (hnc : n ≤ 140737488355328) :
    Calls Try.prog 45 #[.slice A n c] w (RetB w bs) := by
  obtain rfl := hr.blen
  have HR := Lib.hid hr
  have HN := Lib.hid hnc
  clear hr hnc
  obtain ⟨i0, hi, hz0, hz1, hz2⟩ := info_parts infoU8
  have HE := fun w => Lib.run_eql_slice_nil (P := Try.prog) w 36 5 A bs.length c 0 0 Try.underlying36
  have H1 : Hid (0 + bs.length ≤ maxLen) := by have := HN.out; show 0 + bs.length ≤ _; unfold maxLen; omega
  have H2 : Hid ((0 + bs.length) * 1 ≤ 140737488355328) := by have := HN.out; show (0 + bs.length) * 1 ≤ _; omega
  cases A with
  | none =>
    go_enter Try.func45, Try.ntmps45
    go_wp2
    go_ret
    have h0 : bs = [] := by
      rcases Nat.eq_zero_or_pos bs.length with h | h
      · exact List.eq_nil_of_length_eq_zero h
      · obtain ⟨ad, e, _⟩ := HR.out.2 h
        cases e
    subst h0
    exact ⟨none, 0, rfl, World.ownsRow_nil _ _ _ _, Below.refl _ _⟩
  | some ad =>
    go_enter Try.func45, Try.ntmps45
    go_wp2_with (at_builtin; refine wpList_append_src rfl (.tmp 5) (.tmp 6) 36 rfl w.heap.size 5 i0 (.int .u8 0) 1 Try.underlying36 hi hz0 hz1 hz2 rfl _ 0 [] rfl (own_empty w _ _ (Nat.le_refl _)) (some ad) bs.length c (bs.map bv) rfl (HR.out.alloc _) (map_bv_one _) H1.out H2.out (by simp) ?_; intro v1 w1 hown hg _)
    have hb1 : Below w.heap.size w w1 := ((Below.refl _ w).alloc (Nat.le_refl _) _).grown hg (by simp) (fun k hk => by have e : some w.heap.size = some k := hk; injection e; omega)
    rw [Nat.zero_add, List.nil_append] at hown
    obtain ⟨A', c', rfl⟩ := own_slice hown
    clear hg
    go_wp2
    go_ret
    exact ⟨A', c', rfl, hown, hb1⟩

set_option maxHeartbeats 400000 in
theorem eq_any (A B : Option Addr) (n c m d : Nat) (xs ys : List UInt8) (w : World) (hr : RdB w A n xs) (hs : RdB w B m ys) (hn : n ≤ maxLen) (hm : m ≤ maxLen) :
    Calls Try.prog 27 #[.slice A n c, .slice B m d] w (RetEq w (decide (xs = ys))) := by
  obtain rfl := hr.blen
  obtain rfl := hs.blen
  unfold maxLen at hn hm
  have HR := Lib.hid hr
  have HS := Lib.hid hs
  clear hr hs
  by_cases hlen : xs.length = ys.length
  · have HL := Lib.hid hlen
    have hl1 : ((xs.length : Int) != (ys.length : Int)) = false := by simp [hlen]
    have hl2 := Nat.le_of_eq hlen
    clear hlen
    go_enter Try.func27, Try.ntmps27
    go_wp2
    go_loopw [5] (fun i wr => ∃ k j : Nat, k ≤ xs.length ∧ i = .int .i64 k ∧ Hid (xs.take k = ys.take k) ∧ Hid (wr = w.drewN j))
      (fun i _ => xs.length - (intOf i).toNat)
    case atStart => exact ⟨0, 0, Nat.zero_le _, rfl, rfl, rfl⟩
    case round =>
      obtain ⟨k, j, hk, rfl, ht, hw⟩ := hrel
      obtain rfl := hw.out
      clear hw
      by_cases hlt : k < xs.length
      · have hlt2 : k < ys.length := by omega
        obtain ⟨ad, x, rfl, _, hx, hc⟩ := HR.out.byte hlt
        obtain ⟨ad2, y, rfl, _, hy, hc2⟩ := HS.out.byte hlt2
        by_cases hxy : x = y
        · have hne : ((x.toNat : Int) != (y.toNat : Int)) = false := by simp [hxy]
          have HXY := Lib.hid hxy
          clear hxy
          go_wp2
          go_quiet (fail)
          go_wp2
          go_roundw
          case rel => exact ⟨k + 1, _, by omega, by go_num, take_eq_snoc hx.out hy.out ht.out HXY.out, rfl⟩
          case measure => simp [intOf]; omega
        · have hne := u8_ne hxy
          have HXY := Lib.hid hxy
          clear hxy
          go_wp2
          go_quiet (fail)
          go_wp2
          go_ret
          exact RetEq.of (no_eq hx.out hy.out HXY.out) (drewN2 _ _ _)
      · obtain rfl : k = xs.length := by omega
        go_wp2
        go_ret
        exact RetEq.of (yes_eq HL.out ht.out) rfl
  · have hl1 : ((xs.length : Int) != (ys.length : Int)) = true := by simp; omega
    have HL := Lib.hid hlen
    clear hlen
    go_enter Try.func27, Try.ntmps27
    go_wp2
    go_ret
    exact RetEq.of (n := 0) (no_eq_len HL.out) rfl
end Go.Proofs.Ytenommboacjopaa
