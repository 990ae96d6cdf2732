/-
  Package deal: the iterator of powers, and At over it.
-/
import Derived.Test.YtalclldccnichaaGreatJoin
import Derived.Test.YtalclldccnichaaGreatRefNat
namespace Go.Proofs.YtalclldccnichaaGreat
open Go.RowKit Go.Shelf
attribute [local go_sem] Oper.semAt_some

/-- The powers of x modulo Q, as they are made. -/
def pwQ (x : Int) : Nat → Int
  | 0 => 1
  | k + 1 => pwQ x k * x % 1152921504606845789
theorem pwQ_bd (x : Int) : ∀ k, 0 ≤ pwQ x k ∧ pwQ x k < 1152921504606845789
  | 0 => by unfold pwQ; decide
  | _ + 1 => emod_self_lt _ _ (by decide)

/-- A cell stays as it is. -/
def KeepX (B : Nat) (W W' : World) : Prop := ∀ v, W.cell? ⟨B, 0, none⟩ = some v → W'.cell? ⟨B, 0, none⟩ = some v
theorem keepX_t {B : Nat} {X Y Z : World} (h : KeepX B X Y) (k : KeepX B Y Z) : KeepX B X Z := fun v hv => k v (h v hv)
theorem keepX_b {B : Nat} {w : World} (hB : B < w.heap.size) (W : World) (l : Nat) (o o' : Obj) (hl : w.heap.size ≤ l) (h : W.heap[l]? = some o) (h1 : o.isCells = false) (h2 : o.isWalk = false) : KeepX B W (W.putObj l o') :=
  fun _ hv => ((belowK_b (Nat.le_refl w.heap.size) W l o o' hl h h1 h2).cell (p := ⟨B, 0, none⟩) hB).trans hv

set_option maxRecDepth 100000 in
set_option maxHeartbeats 2000000 in
theorem powers1_in (n : Nat) (hn : 1 ≤ n) (l Bn Bx len : Nat) (x : Int) (hlen : len ≤ 9223372036854775807) (J Jx : List (Fin len) → World → Prop) (W : World)
    (hY : ∀ pre (y : Fin len) W1, J pre W1 → pre.length < len → YieldAt Fence.wide (n - 1) Tryz.prog l #[.int .i64 (y.1 : Int), .int .i64 (pwQ x y.1)] W1 fun e W' =>
      (e = .returned (.bool true) ∧ J (pre ++ [y]) W' ∧ KeepX Bx W1 W') ∨ (e = .returned (.bool false) ∧ Jx (pre ++ [y]) W'))
    (hcn : W.cell? ⟨Bn, 0, none⟩ = some (.int .i64 len)) (hcx : W.cell? ⟨Bx, 0, none⟩ = some (.int .i64 x)) (h0 : J [] W) :
    CallsIn Fence.wide n Tryz.prog 98 #[.func (.yield l) #[] #[], .pointer (some ⟨Bn, 0, none⟩), .pointer (some ⟨Bx, 0, none⟩)] W fun e W' => (∃ v, e = .returned v) ∧
      ((∃ ys, ys = upF len len ∧ J ys W') ∨ (∃ pre, True ∧ Jx pre W')) := by
  have HY := Lib.hid hY
  have HCX := Lib.hid hcx
  clear hY hcx
  refine callsIn_of_wp Tryz.func98 rfl trivial ?_ rfl
  simp only [Tryz.ntmps98, List.size_toArray, List.length_cons, List.length_nil, Nat.reduceAdd, Nat.reduceSub, Array.replicate_succ, Array.replicate_zero, List.push_toArray, List.append_toArray, List.nil_append, List.cons_append]
  gi_wp2
  gi_loopw [4, 7] (fun vp i wr => ∃ k : Nat, k ≤ len ∧ i = .int .i64 k ∧ vp = .int .i64 (pwQ x k) ∧ J (upF len k) wr ∧ wr.cell? ⟨Bx, 0, none⟩ = some (.int .i64 x)) (fun _ i _ => len - (intOf i).toNat)
  case atStart => exact ⟨0, Nat.zero_le _, rfl, rfl, h0, HCX.out⟩
  case round =>
    obtain ⟨k, hk, rfl, rfl, hJs, hnx⟩ := hrel
    have HJS := Lib.hid hJs
    have HNX := Lib.hid hnx
    clear hJs hnx hcn
    by_cases hlt : k < len
    · have i1 : (k : Int) < len := by omega
      have HPN := Lib.hid (show pwQ x (k + 1) = pwQ x k * x % 1152921504606845789 from rfl)
      obtain ⟨fn, tmps, assign, body, hy, hR⟩ := HY.out (upF len k) ⟨k, hlt⟩ wr HJS.out (by rw [upF_length k (by omega)]; exact hlt)
      dsimp only at hy
      have HR := Lib.hid hR
      clear hR
      gi_wp2
      refine HR.out.mono ?_
      rintro e W3 (⟨rfl, hJ3, hk3⟩ | ⟨rfl, hJx3⟩)
      · have HJ3 := Lib.hid hJ3
        have cx := hk3 _ HNX.out
        have HK3 := Lib.hid cx
        clear hJ3 hk3 hy
        gi_wp2_with fail
        refine ⟨trivial, (callsIn_wide.2 (mul_any (pwQ x k) x 1152921504606845789 _ (by decide) (by decide))).mono ?_⟩
        rintro e w' ⟨rfl, rfl⟩
        gi_wp2
        go_roundw
        case rel => exact ⟨k + 1, by omega, by go_num, by rw [HPN.out], by rw [upF_succ hlt]; exact HJ3.out, HK3.out⟩
        case measure => simp [intOf]; omega
      · clear hy
        gi_wp2
        refine bodyPost_ret (results_none rfl _ _ _) rfl ?_
        exact ⟨⟨_, rfl⟩, .inr ⟨_, trivial, hJx3⟩⟩
    · obtain rfl : k = len := by omega
      have i1 : ¬ (k : Int) < k := by omega
      gi_wp2
      go_end0
      first | exact ⟨⟨_, rfl⟩, .inl ⟨_, rfl, HJS.out⟩⟩ | exact ⟨⟨_, rfl⟩, .inl HJS.out⟩

/-- The powers of x, one after the other, with their places. -/
theorem powers_stops (n : Nat) (hn : 1 ≤ n) (Bn Bx len : Nat) (x : Int) (w : World) (hlen : len ≤ 9223372036854775807) (hBn : Bn < w.heap.size) (hBx : Bx < w.heap.size) (hcn : w.cell? ⟨Bn, 0, none⟩ = some (.int .i64 len)) (hcx : w.cell? ⟨Bx, 0, none⟩ = some (.int .i64 x)) :
    SeqStopsK Fence.wide n Tryz.prog 98 #[.pointer (some ⟨Bn, 0, none⟩), .pointer (some ⟨Bx, 0, none⟩)] (fun y : Fin len => #[Value.int .i64 (y.1 : Int), .int .i64 (pwQ x y.1)]) (KeepX Bx) (fun ys => ys = upF len len) (fun _ => True) len w := fun l J Jx W hW _ _ hY h0 =>
  powers1_in n hn l Bn Bx len x hlen J Jx W hY ((hW.cell (p := ⟨Bn, 0, none⟩) hBn).trans hcn) ((hW.cell (p := ⟨Bx, 0, none⟩) hBx).trans hcx) h0

theorem powers_any (m x : Int) (w : World) :
    Calls Tryz.prog 80 #[.int .i64 m, .int .i64 x] w fun e w' => e = .returned (.func (.func 98) #[] #[.pointer (some ⟨w.heap.size, 0, none⟩), .pointer (some ⟨w.heap.size + 1, 0, none⟩)]) ∧ w' = (w.alloc (.cells #[.int .i64 m] 3)).alloc (.cells #[.int .i64 x] 3) := by
  go_enter Tryz.func80, Tryz.ntmps80
  go_wp2
  go_ret
  exact ⟨rfl, rfl⟩

def stepA (cs : List Int) (x s : Int) (i : Fin cs.length) : Int := s * powM (ptAt cs i.1) (pwQ x i.1) 2305843009213691579 % 2305843009213691579
def stepV (cs : List Int) (x s : Int) (i : Fin cs.length) : Int := (s + ptAt cs i.1 * pwQ x i.1) % 1152921504606845789
/-- The public value of commitments at x. -/
def atZ (cs : List Int) (x : Int) : Int := (upF cs.length cs.length).foldl (stepA cs x) 1

theorem at_round {w W : World} {n : Nat} {u sv : Value} {r z : Int} {o : Obj} (hc5 : W.cell? ⟨n + 1, 0, none⟩ = some u) (hf5 : W.frozen? ⟨n + 1, 0, none⟩ = false) (hc2 : W.cell? ⟨n, 0, none⟩ = some sv) (hB : Below n w W) (hsz : n ≤ W.heap.size) (h4l : n + 1 < W.heap.size) (hz : r = z) :
    KeepsOthers W ((W.setCell ⟨n + 1, 0, none⟩ (.int .i64 z)).alloc o).drew ∧ KeepX (n + 1 + 1 + 1) W ((W.setCell ⟨n + 1, 0, none⟩ (.int .i64 z)).alloc o).drew ∧
      ((((W.setCell ⟨n + 1, 0, none⟩ (.int .i64 z)).alloc o).drew.cell? ⟨n + 1, 0, none⟩ = some (.int .i64 r) ∧ ((W.setCell ⟨n + 1, 0, none⟩ (.int .i64 z)).alloc o).drew.frozen? ⟨n + 1, 0, none⟩ = false) ∧
        ((W.setCell ⟨n + 1, 0, none⟩ (.int .i64 z)).alloc o).drew.cell? ⟨n, 0, none⟩ = some sv) ∧ Below n w ((W.setCell ⟨n + 1, 0, none⟩ (.int .i64 z)).alloc o).drew := by
  subst hz
  have hO : Only (fun k => k = n + 1) W ((W.setCell ⟨n + 1, 0, none⟩ (.int .i64 r)).alloc o).drew := (((Only.refl (fun k => k = n + 1) W).setCell (p := ⟨n + 1, 0, none⟩) (.inl rfl) _).alloc _).drew
  have hO1 : Only (fun _ => False) (W.setCell ⟨n + 1, 0, none⟩ (.int .i64 r)) ((W.setCell ⟨n + 1, 0, none⟩ (.int .i64 r)).alloc o).drew := ((Only.refl _ _).alloc _).drew
  refine ⟨((KeepsOthers.setCell _ _ _).trans (KeepsOthers.alloc _ _)).trans (KeepsOthers.drew _), fun v hv => hO.cell hv (by simp; omega), ⟨⟨hO1.cell (World.cell?_setCell_same' _ _ _ (by rw [hc5]; rfl)) id, ?_⟩, hO.cell hc2 (by simp)⟩, hB.trans (hO.below hsz (fun i hi e => by omega))⟩
  exact (World.frozen?_of_block (hO1.block (n + 1) (by simpa [World.setCell] using h4l) id)).trans (by rw [World.frozen?_setCell]; exact hf5)

set_option maxRecDepth 100000 in
set_option maxHeartbeats 2000000 in
theorem at_any (sv : Value) (cs : List Int) (x : Int) (w : World) (hI : PtsAt w.heap.size w sv cs) (hlen : cs.length ≤ 9223372036854775807) :
    Calls Tryz.prog 53 #[sv, .int .i64 x] w fun e W' => e = .returned (.int .i64 (atZ cs x)) ∧ Below w.heap.size w W' := by
  obtain ⟨a0, c0, rfl⟩ := hI.slice
  refine (callsIn_wide (n := 5)).1 ?_
  refine callsIn_of_wp_marks Tryz.func53 rfl trivial ?_ rfl
  simp only [Tryz.ntmps53, List.size_toArray, List.length_cons, List.length_nil, Nat.reduceAdd, Nat.reduceSub, Array.replicate_succ, Array.replicate_zero, List.push_toArray, List.append_toArray, List.nil_append, List.cons_append]
  have HI := Lib.hid hI
  clear hI
  gi_wp2_with fail
  refine ⟨trivial, (callsIn_wide.2 (powers_any cs.length x _)).mono ?_⟩
  rintro e w' ⟨rfl, rfl⟩
  have HB0 := Lib.hid (show Below w.heap.size w ((((w.alloc (.cells #[.slice a0 cs.length c0] 22)).alloc (.cells #[.int .i64 1] 3)).alloc (.cells #[.int .i64 cs.length] 3)).alloc (.cells #[.int .i64 x] 3)) from ((((Below.refl _ w).alloc (Nat.le_refl _) _).alloc (by simp) _).alloc (by simp; omega) _).alloc (by simp; omega) _)
  have b2 := Boxed.new w 22 (.slice a0 cs.length c0)
  have b5 := Boxed.new (w.alloc (.cells #[.slice a0 cs.length c0] 22)) 3 (.int .i64 1)
  have b6 := Boxed.new ((w.alloc (.cells #[.slice a0 cs.length c0] 22)).alloc (.cells #[.int .i64 1] 3)) 3 (.int .i64 cs.length)
  have b7 := Boxed.new (((w.alloc (.cells #[.slice a0 cs.length c0] 22)).alloc (.cells #[.int .i64 1] 3)).alloc (.cells #[.int .i64 cs.length] 3)) 3 (.int .i64 x)
  simp only [World.size_alloc] at b5 b6 b7
  have HB2 := Lib.hid (((b2.alloc (.cells #[.int .i64 1] 3)).alloc (.cells #[.int .i64 cs.length] 3)).alloc (.cells #[.int .i64 x] 3)).cell
  have HB5 := Lib.hid ((b5.alloc (.cells #[.int .i64 cs.length] 3)).alloc (.cells #[.int .i64 x] 3))
  have HB6 := Lib.hid (b6.alloc (.cells #[.int .i64 x] 3)).cell
  have HB7 := Lib.hid b7.cell
  clear b2 b5 b6 b7
  gi_wp2
  refine wpIn_rangeFunc_ownF rfl (by decide) (gf := 98) (lb := #[.pointer (some ⟨w.heap.size + 1 + 1, 0, none⟩), .pointer (some ⟨w.heap.size + 1 + 1 + 1, 0, none⟩)]) rfl trivial (enters_of Tryz.func98 (by kernel_rfl) rfl)
    (powers_stops (5 - 1) (by decide) (w.heap.size + 1 + 1) (w.heap.size + 1 + 1 + 1) cs.length x _ hlen (by simp) (by simp) HB6.out HB7.out) keepX_t (keepX_b (by simp)) (Below.refl _ _) (fun _ => rfl)
    (fun pre W => ((W.cell? ⟨w.heap.size + 1, 0, none⟩ = some (.int .i64 (pre.foldl (stepA cs x) 1)) ∧ W.frozen? ⟨w.heap.size + 1, 0, none⟩ = false) ∧ W.cell? ⟨w.heap.size, 0, none⟩ = some (.slice a0 cs.length c0)) ∧ Below w.heap.size w W)
    (fun _ _ _ => False)
    (OwnFrom.and (Own.from (fun s A B row hs hg hr => ⟨⟨cell_kept hs.1.1 hg hr, (frozen_kept hs.1.1 hg hr).trans hs.1.2⟩, cell_kept hs.2 hg hr⟩) _) (ownFrom_below (Nat.le_refl _) (by simp; omega)))
    (fun _ _ _ _ _ hs _ _ => hs)
    ⟨⟨⟨HB5.out.cell, HB5.out.frozen⟩, HB2.out⟩, HB0.out⟩
    (fun y => { tmps := #[.slice a0 cs.length c0, .int .i64 x, .pointer (some ⟨w.heap.size, 0, none⟩), undef, .int .i64 0, .pointer (some ⟨w.heap.size + 1, 0, none⟩), .int .i64 (y.1 : Int), .int .i64 (pwQ x y.1), .slice a0 cs.length c0, .int .i64 cs.length, .int .i64 x, .func (.func 98) #[] #[.pointer (some ⟨w.heap.size + 1 + 1, 0, none⟩), .pointer (some ⟨w.heap.size + 1 + 1 + 1, 0, none⟩)], .int .i64 (y.1 : Int), .int .i64 (pwQ x y.1), undef, undef, undef, undef, undef, undef, undef, undef, undef], defers := [] }) ?assign ?body ?done ?stop
  case assign =>
    intro l x W K hK
    gi_wp2
    exact hK
  case body =>
    clear HB0 HB2 HB5 HB6 HB7
    rintro l pre y W ⟨⟨⟨hc5, hf5⟩, hc2⟩, hB⟩ _
    have hpw := pwQ_bd x y.1
    have hsz := hB.size
    have h4l := World.block_lt_of_cell? W _ hc5
    obtain ⟨b, off, rfl, hb, hl0, hcap1, hcap2, hce⟩ := (PtsAt.mono hsz (HI.out.below hB)).cellAt y.2
    have HST := Lib.hid (foldl_snoc (stepA cs x) 1 pre y)
    obtain ⟨acc, hacc⟩ : ∃ acc, pre.foldl (stepA cs x) 1 = acc := ⟨_, rfl⟩
    have HSX := Lib.hid (show stepA cs x acc y = acc * powM (ptAt cs y.1) (pwQ x y.1) 2305843009213691579 % 2305843009213691579 from rfl)
    rw [hacc] at hc5
    have HACC := Lib.hid hacc
    clear hacc
    obtain ⟨yn, hy⟩ := y
    dsimp only at hpw hce HSX ⊢
    generalize pwQ x yn = pw at *
    generalize ptAt cs yn = v at *
    obtain ⟨pw0, pw1⟩ := hpw
    obtain ⟨z, hz⟩ : ∃ z, powM v pw 2305843009213691579 = z := ⟨_, rfl⟩
    have HPW := Lib.hid (fun w => show Calls Tryz.prog 71 #[.int .i64 v, .int .i64 pw, .int .i64 2305843009213691579] w fun e w' => e = .returned (.int .i64 z) ∧ w' = w.alloc (.cells #[.int .i64 2305843009213691579] 3) from by rw [← hz]; exact pow_any v pw 2305843009213691579 w (by decide) (by decide) pw0 (by omega))
    rw [hz] at HSX
    clear hz hl0
    have i1 : (yn : Int) < cs.length := by omega
    have i2 : 0 ≤ (yn : Int) := by omega
    have hmx : Tryz.prog.follows .mixedOrders = true := by kernel_rfl
    gi_wp2
    gi_region_with_o (first
      | (refine ⟨trivial, ?_⟩; gi_at_call 71; refine (CallsIn.inRound l (callsIn_wide.2 (HPW.out _))).mono ?_; rintro e w' ⟨rfl, rfl⟩)
      | (refine ⟨trivial, ?_⟩; gi_at_call 41; refine (CallsIn.inRound l (callsIn_wide.2 (mul_any acc z 2305843009213691579 _ (by decide) (by decide)))).mono ?_; rintro e w' ⟨rfl, rfl⟩))
    all_goals (clear HPW hmx i1 i2 pw0 pw1 hce hcap1 hcap2 hb HI)
    all_goals gi_wp2
    all_goals exact at_round hc5 hf5 hc2 hB hsz h4l (by rw [HST.out, HACC.out, HSX.out])
  case done =>
    rintro D ys W hD rfl ⟨⟨⟨hc4, _⟩, _⟩, hB⟩ hK
    gi_wp2
    refine ⟨by simp, .inl ⟨_, _, rfl, run_takeDeferred hK, ?_⟩⟩
    exact ⟨_, results_tmp rfl _ _ _, rfl, hB.trans (belowK_b (w := w) (Nat.le_refl _) W D _ _ (by simp at hD; omega) hK rfl rfl)⟩
  case stop =>
    rintro D c pre W _ _ h _
    exact h.elim
end Go.Proofs.YtalclldccnichaaGreat
