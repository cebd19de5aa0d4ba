/- wal.Records and its iterator by their contracts. -/
import Derived.Test.YtenommboacjopaaRepl
import Derived.RangeFuncBound
namespace Go.Proofs.Ytenommboacjopaa
open Go.RowKit Go.Shelf
attribute [local go_sem] Oper.semAt_some

theorem YieldAt.any {m m' : Nat} {P : Program} {l : Nat} {args : Array Value} {W : World} {R : Ending → World → Prop} (h : YieldAt Fence.wide m P l args W R) : YieldAt Fence.wide m' P l args W R := by
  obtain ⟨fn, tmps, assign, body, hy, hR⟩ := h
  exact ⟨fn, tmps, assign, body, hy, hR.1, fun c cs _ => hR.2 c cs (room_wide _)⟩

/-- Where Records' iterator's own lies. -/
def recFoot (M : DkM) (b pb : Nat) (k : Nat) : Prop := M.foot b k ∨ k = pb
structure RecAt (w : World) (Bd b pb first count room epoch : Nat) (D : Dk) (M : DkM) : Prop where
  dk : DiskAt w Bd b D M
  pl : Blk w pb 95 #[.pointer (some ⟨b, 0, none⟩), .int .i64 (first : Int), .int .i64 (count : Int), .int .i64 (room : Int), .int .u64 (epoch : Int)]
theorem RecAt.only {w w' : World} {Bd b pb first count room epoch : Nat} {D : Dk} {M : DkM} {F : Nat → Prop} (h : RecAt w Bd b pb first count room epoch D M) (ho : Only F w w') (hF : ∀ k, F k → ¬ recFoot M b pb k) : RecAt w' Bd b pb first count room epoch D M :=
  ⟨h.dk.only ho (fun k hk hf => hF k hf (.inl hk)), h.pl.only ho (fun hf => hF _ hf (.inr rfl))⟩
theorem RecAt.lt {w : World} {Bd b pb first count room epoch : Nat} {D : Dk} {M : DkM} (h : RecAt w Bd b pb first count room epoch D M) : ∀ k, recFoot M b pb k → k < w.heap.size := by
  rintro k (hk | rfl)
  · exact (h.dk.foot_lt hk).2
  · exact h.pl.lt
def recS (Bd b pb first count room epoch : Nat) (D : Dk) (M : DkM) (xs : List RecV) (W : World) : Prop :=
  ∃ at_ R R', runK (secOf D first) count room epoch xs.length = some (xs.map RecV.bs, at_, R) ∧ recF (secOf D first) count room epoch at_ R = (none, R') ∧ RecAt W Bd b pb first count room epoch { D with rd := D.rd + R'.reads } M
def recSp (Bd b pb first count room epoch : Nat) (D : Dk) (M : DkM) (xs : List RecV) (W : World) : Prop :=
  ∃ at_ R, runK (secOf D first) count room epoch xs.length = some (xs.map RecV.bs, at_, R) ∧ RecAt W Bd b pb first count room epoch { D with rd := D.rd + R.reads } M
theorem recS_abides (Bd b pb first count room epoch : Nat) (D : Dk) (M : DkM) : AbidesS (recFoot M b pb) (recS Bd b pb first count room epoch D M) := by
  rintro xs W W' ⟨at_, R, R', h1, h2, h3⟩ ho
  exact ⟨at_, R, R', h1, h2, h3.only ho (fun k hk hf => hk hf)⟩
theorem recSp_abides (Bd b pb first count room epoch : Nat) (D : Dk) (M : DkM) : AbidesS (recFoot M b pb) (recSp Bd b pb first count room epoch D M) := by
  rintro xs W W' ⟨at_, R, h1, h3⟩ ho
  exact ⟨at_, R, h1, h3.only ho (fun k hk hf => hk hf)⟩

set_option maxHeartbeats 800000 in
theorem records_ok (w : World) (Bd b : Nat) (D : Dk) (M : DkM) (first count epoch : Nat) (hd : DiskAt w Bd b D M) (h1 : 1 ≤ count) (h2 : count ≤ 64) (h3 : first + count ≤ D.n) :
    Calls Try.prog 33 #[.pointer (some ⟨b, 0, none⟩), .int .i64 (first : Int), .int .i64 (count : Int), .int .u64 (epoch : Int)] w
      (fun e w' => ∃ pb, w.heap.size ≤ pb ∧ e = .returned (.func (.func 55) #[] #[.pointer (some ⟨pb, 0, none⟩)]) ∧ RecAt w' Bd b pb first count (D.size - 17) epoch D M ∧ Below w.heap.size w w') := by
  have HD := Lib.hid hd
  clear hd
  go_enter Try.func33, Try.ntmps33
  go_wp2_with (go_at_call 43; refine (lay_ok w Bd b D M first count epoch HD.out h1 h2 h3).mono ?_; unfold placeV; rintro e w' ⟨rfl, hb⟩; have HB := Lib.hid hb; clear hb)
  go_ret
  refine ⟨w'.heap.size, HB.out.size, rfl, ⟨(HD.out.below HB.out).below ((Below.refl _ w').alloc (Nat.le_refl _) _), Blk.new w' _ _⟩, HB.out.alloc HB.out.size _⟩

set_option maxRecDepth 100000 in
set_option maxHeartbeats 4000000 in
theorem records2_stops (n : Nat) (hn : 3 ≤ n) (w : World) (Bd b pb first count room epoch : Nat) (D : Dk) (M : DkM) (h : RecAt w Bd b pb first count room epoch D M) (hal : D.dead = false) (hfit : first + count ≤ D.n) (hsz : room + 17 = D.size) (hc : count ≤ 64) :
    SeqR Fence.wide n Try.prog 55 #[.pointer (some ⟨pb, 0, none⟩)] (recFoot M b pb) (recS Bd b pb first count room epoch D M) (recSp Bd b pb first count room epoch D M) w := by
  intro l J Jx W C0 hW hJ hJx hY h0 hC0
  have H := Lib.hid (h.only (Only.of_below (F := fun _ => False) hW) (fun k hk => hk.elim))
  have HJ := Lib.hid hJ
  have HJX := Lib.hid hJx
  have HY := Lib.hid hY
  have H0 := Lib.hid h0
  have HC0 := Lib.hid hC0
  clear h hW hJ hJx hY h0 hC0
  refine callsIn_of_wp Try.func55 rfl trivial ?_ rfl
  simp only [Try.ntmps55, List.size_toArray, List.length_cons, List.length_nil, Nat.reduceAdd, Nat.reduceSub, Array.replicate_succ, Array.replicate_zero, List.push_toArray, List.append_toArray, List.nil_append, List.cons_append]
  obtain ⟨WA, hWA⟩ : ∃ WA, WA = W.alloc (.cells #[.int .i64 0] 29) := ⟨_, rfl⟩
  have HPA : Hid (Blk WA pb 95 #[.pointer (some ⟨b, 0, none⟩), .int .i64 (first : Int), .int .i64 (count : Int), .int .i64 (room : Int), .int .u64 (epoch : Int)]) := by rw [hWA]; exact H.out.pl.alloc _
  have p0 : (W.alloc (.cells #[.int .i64 0] 29)).cell? ⟨pb, 0, none⟩ = some (.pointer (some ⟨b, 0, none⟩)) := by rw [← hWA]; exact HPA.out.at_ 0 rfl
  have p1 : (W.alloc (.cells #[.int .i64 0] 29)).cell? ⟨pb, 1, none⟩ = some (.int .i64 (first : Int)) := by rw [← hWA]; exact HPA.out.at_ 1 rfl
  have p2 : (W.alloc (.cells #[.int .i64 0] 29)).cell? ⟨pb, 2, none⟩ = some (.int .i64 (count : Int)) := by rw [← hWA]; exact HPA.out.at_ 2 rfl
  have p3 : (W.alloc (.cells #[.int .i64 0] 29)).cell? ⟨pb, 3, none⟩ = some (.int .i64 (room : Int)) := by rw [← hWA]; exact HPA.out.at_ 3 rfl
  have p4 : (W.alloc (.cells #[.int .i64 0] 29)).cell? ⟨pb, 4, none⟩ = some (.int .u64 (epoch : Int)) := by rw [← hWA]; exact HPA.out.at_ 4 rfl
  clear hWA HPA
  obtain ⟨W2, hW2⟩ : ∃ W2, W2 = ((W.alloc (.cells #[.int .i64 0] 29)).alloc (.cells #[.pointer (some ⟨b, 0, none⟩), .int .i64 (first : Int), .int .i64 (count : Int), .int .i64 (room : Int), .int .u64 (epoch : Int)] 95)).alloc (.cells #[.pointer (some ⟨W.heap.size, 0, none⟩)] 102) := ⟨_, rfl⟩
  have HW2 := Lib.hid hW2
  have hlt := H.out.lt
  have hsz2 : W2.heap.size = W.heap.size + 3 := by rw [hW2]; simp
  have ho2 : Only (fun _ => False) W W2 := by rw [hW2]; exact (((Only.refl _ W).alloc _).alloc _).alloc _
  have HIT : Hid (ItAt W2 Bd b (W.heap.size + 1) (W.heap.size + 1 + 1) W.heap.size first count room epoch D M) := by
    have b0 := Blk.new W 29 #[.int .i64 0]
    have b1 := Blk.new (W.alloc (.cells #[.int .i64 0] 29)) 95 #[.pointer (some ⟨b, 0, none⟩), .int .i64 (first : Int), .int .i64 (count : Int), .int .i64 (room : Int), .int .u64 (epoch : Int)]
    have b2 := Blk.new ((W.alloc (.cells #[.int .i64 0] 29)).alloc (.cells #[.pointer (some ⟨b, 0, none⟩), .int .i64 (first : Int), .int .i64 (count : Int), .int .i64 (room : Int), .int .u64 (epoch : Int)] 95)) 102 #[.pointer (some ⟨W.heap.size, 0, none⟩)]
    simp only [World.size_alloc] at b1 b2
    have hd := H.out.dk.only ho2 (fun k _ h => h)
    rw [hW2] at hd ⊢
    exact ⟨hd, b1.alloc _, b2, (b0.alloc _).alloc _⟩
  have HPB : Hid (Blk W2 pb 95 #[.pointer (some ⟨b, 0, none⟩), .int .i64 (first : Int), .int .i64 (count : Int), .int .i64 (room : Int), .int .u64 (epoch : Int)]) := H.out.pl.only ho2 (fun h => h)
  have hpbW : pb < W.heap.size := H.out.pl.lt
  have HSTOP := Lib.hid (records1_stops n (by omega) W2 Bd b (W.heap.size + 1) (W.heap.size + 1 + 1) W.heap.size first count room epoch D M HIT.out hal hfit hsz hc)
  let Jp : (List RecV → (Nat → Prop) → World → Prop) → List RecV → (Nat → Prop) → World → Prop := fun J pre C' W' => ∃ C : Nat → Prop, (∀ k, C' k ↔ C k ∨ k = pb) ∧ ¬ C pb ∧ J pre C W' ∧ Blk W' pb 95 #[.pointer (some ⟨b, 0, none⟩), .int .i64 (first : Int), .int .i64 (count : Int), .int .i64 (room : Int), .int .u64 (epoch : Int)]
  have hJp : ∀ J, Abides J → Abides (Jp J) := by
    rintro J hJ pre C' Wa Wb ⟨C, h1, h2, h3, h4⟩ ho
    exact ⟨C, h1, h2, hJ _ _ _ _ h3 (ho.mono fun k _ hk hc => hk ((h1 k).2 (.inl hc))), h4.only ho (fun h => h ((h1 pb).2 (.inr rfl)))⟩
  have hmain := HSTOP.out l (Jp J) (Jp Jx) W2 (fun k => C0 k ∨ k = pb) (Below.refl _ _) (hJp J HJ.out) (hJp Jx HJX.out) (by
      rintro pre x C' W1 ⟨C, hC1, hC2, hj, hpl⟩ hs1 hown hxC hClt hpl2 ⟨at_, R, hr1, hr2⟩
      have hxpb : x.val.ownBlock ≠ some pb := fun e => hxC pb e ((hC1 pb).2 (.inr rfl))
      refine Go.YieldAt.mono (YieldAt.any (m' := n - 1) (HY.out pre x C W1 hj (by omega) (ownsRow_base hown (by omega)) (fun g hg hc => hxC g hg ((hC1 g).2 (.inl hc))) (fun k hc => hClt k ((hC1 k).2 (.inl hc))) hpl2 ⟨at_, R, hr1, hr2.dk, hpl⟩)) ?_
      have conv : ∀ Jz C1 W', Jz (pre ++ [x]) C1 W' → Turned C x C1 W1 W' → ∃ C1', Jp Jz (pre ++ [x]) C1' W' ∧ Turned C' x C1' W1 W' := by
        intro Jz C1 W' hz ht
        have hn1 : ¬ C1 pb := fun h => by
          rcases (ht.own pb h).1 with h | h | h
          · exact hC2 h
          · exact hxpb h
          · have := hpl.lt; omega
        refine ⟨fun k => C1 k ∨ k = pb, ⟨C1, fun _ => Iff.rfl, hn1, hz, hpl.only ht.only (fun h => h.elim hC2 hxpb)⟩, ht.only.mono (fun k _ h => h.elim (fun h => .inl ((hC1 k).2 (.inl h))) .inr), ?_⟩
        rintro k (hk | rfl)
        · obtain ⟨h1, h2⟩ := ht.own k hk
          exact ⟨h1.elim (fun h => .inl ((hC1 k).2 (.inl h))) .inr, h2⟩
        · exact ⟨.inl ((hC1 k).2 (.inr rfl)), Nat.lt_of_lt_of_le hpl.lt ht.only.size⟩
      rintro e W' (⟨he, C1, hz, ht⟩ | ⟨he, C1, hz, ht⟩)
      · exact .inl ⟨he, conv J C1 W' hz ht⟩
      · exact .inr ⟨he, conv Jx C1 W' hz ht⟩)
    ⟨C0, fun _ => Iff.rfl, fun h => (HC0.out pb h).2 (.inr rfl), HJ.out _ _ _ _ H0.out (ho2.mono fun _ _ h => h.elim), HPB.out⟩ (by
      rintro k (hk | rfl)
      · obtain ⟨h1, h2⟩ := HC0.out k hk
        refine ⟨by omega, ?_⟩
        rintro (e | e | e | e)
        · exact h2 (.inl e)
        all_goals omega
      · refine ⟨by omega, ?_⟩
        rintro (e | e | e | e)
        · exact H.out.dk.not_foot H.out.pl (by decide) (by decide) (by decide) e
        all_goals omega)
  have HMAIN := Lib.hid hmain
  have h1n : 1 ≤ n := by omega
  clear hmain hJp HSTOP hW2 ho2
  gi_wp2_with (first
    | (refine ⟨trivial, ?_⟩; gi_at_call 48; refine (callsIn_wide.2 (records_any _ b first count room epoch _)).mono ?_; rintro e w2 ⟨rfl, rfl⟩)
    | (refine ⟨trivial, ?_⟩; rw [← HW2.out]; refine (callsIn_wide.2 (callsIn_wide.1 HMAIN.out)).mono ?_; rintro e w3 ⟨⟨v, rfl⟩, hfin⟩))
  go_end0
  refine ⟨⟨_, rfl⟩, ?_⟩
  rcases hfin with ⟨xs, C', ⟨at_, R, R', h1, h2, h3⟩, ⟨C, hC1, hC2, hj, hpl⟩, hf⟩ | ⟨pre, C', ⟨at_, R, h1, h3⟩, ⟨C, hC1, hC2, hj, hpl⟩, hf⟩
  · refine .inl ⟨xs, C, ⟨at_, R, R', h1, h2, h3.dk, hpl⟩, hj, fun k hk hx => ?_⟩
    rcases hx with hx | rfl
    · exact hf k ((hC1 k).2 (.inl hk)) (.inl hx)
    · exact hC2 hk
  · refine .inr ⟨pre, C, ⟨at_, R, h1, h3.dk, hpl⟩, hj, fun k hk hx => ?_⟩
    rcases hx with hx | rfl
    · exact hf k ((hC1 k).2 (.inl hk)) (.inl hx)
    · exact hC2 hk
end Go.Proofs.Ytenommboacjopaa
