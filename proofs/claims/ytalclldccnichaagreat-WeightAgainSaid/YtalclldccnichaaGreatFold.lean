/-
  The fold over the factors of points: combine and lift.
-/
import Derived.Test.YtalclldccnichaaGreatFactors
namespace Go.Proofs.YtalclldccnichaaGreat
open Go.RowKit Go.Shelf
attribute [local go_sem] Oper.semAt_some

theorem facP_bd (zs : List Int) (i : Nat) : 0 ≤ facP zs i ∧ facP zs i < 1152921504606845789 := emod_self_lt _ _ (by decide)
theorem foldl_snoc {α : Type} (g : Int → α → Int) (s : Int) (pre : List α) (x : α) : (pre ++ [x]).foldl g s = g (pre.foldl g s) x := by simp

theorem add_res (a b m : Int) : (a + b % m) % m = (a + b) % m := by rw [Int.add_emod, Int.emod_emod_of_dvd _ (Int.dvd_refl m), ← Int.add_emod]
/-- What turns no block keeps all. -/
theorem keeps_only {w w' : World} (h : Only (fun _ => False) w w') : KeepsOthers w w' := ⟨h.size, fun k _ hk _ => (h.block k (Array.getElem?_eq_some_iff.1 hk).1 (fun h => h)).trans hk⟩
def stepC (zs ns : List Int) (s : Int) (i : Fin zs.length) : Int := (s + ptAt ns i.1 * facP zs i.1) % 1152921504606845789
def stepL (zs ns : List Int) (s : Int) (i : Fin zs.length) : Int := s * powM (ptAt ns i.1) (facP zs i.1) 2305843009213691579 % 2305843009213691579

theorem combine1_any (Bn b off n cap i : Nat) (s f v : Int) (w : World) (hi : i < n) (_hn : n ≤ cap) (_hc : cap ≤ 9223372036854775807) (h0 : w.cell? ⟨Bn, 0, none⟩ = some (.slice (some ⟨b, off, none⟩) n cap)) (h1 : w.cell? ⟨b, off + i, none⟩ = some (.int .i64 v)) :
    Calls Tryz.prog 91 #[.int .i64 s, .int .i64 i, .int .i64 f, .pointer (some ⟨Bn, 0, none⟩)] w fun e w' => e = .returned (.int .i64 ((s + v * f) % 1152921504606845789)) ∧ Only (fun _ => False) w w' := by
  go_enter Tryz.func91, Tryz.ntmps91
  go_wp2_with fail
  refine (mul_any v f 1152921504606845789 _ (by decide) (by decide)).mono ?_
  rintro e w' ⟨rfl, rfl⟩
  go_wp2_with fail
  refine (add_any s (v * f % 1152921504606845789) 1152921504606845789 _ (by decide) (by decide)).mono ?_
  rintro e w' ⟨rfl, rfl⟩
  go_wp2
  go_ret
  exact ⟨ret_int (by first | rfl | rw [add_res]), Only.refl _ _⟩
theorem lift1_any (Bn b off n cap i : Nat) (s f v : Int) (w : World) (hi : i < n) (_hn : n ≤ cap) (_hc : cap ≤ 9223372036854775807) (hf0 : 0 ≤ f) (hf1 : f < 1152921504606845789) (h0 : w.cell? ⟨Bn, 0, none⟩ = some (.slice (some ⟨b, off, none⟩) n cap)) (h1 : w.cell? ⟨b, off + i, none⟩ = some (.int .i64 v)) :
    Calls Tryz.prog 83 #[.int .i64 s, .int .i64 i, .int .i64 f, .pointer (some ⟨Bn, 0, none⟩)] w fun e w' => e = .returned (.int .i64 (s * powM v f 2305843009213691579 % 2305843009213691579)) ∧ Only (fun _ => False) w w' := by
  go_enter Tryz.func83, Tryz.ntmps83
  go_wp2_with fail
  refine (pow_any v f 2305843009213691579 _ (by decide) (by decide) hf0 (by omega)).mono ?_
  rintro e w' ⟨rfl, rfl⟩
  obtain ⟨z, hz⟩ : ∃ z, powM v f 2305843009213691579 = z := ⟨_, rfl⟩
  rw [hz]
  have HZ := Lib.hid hz
  clear hz
  go_wp2_with fail
  refine (mul_any s z 2305843009213691579 _ (by decide) (by decide)).mono ?_
  rintro e w' ⟨rfl, rfl⟩
  go_wp2
  go_ret
  exact ⟨ret_int (by rw [HZ.out]), (Only.refl _ _).alloc _⟩

set_option maxRecDepth 100000 in
set_option maxHeartbeats 2000000 in
theorem foldC_any (Bs Bn b off cap : Nat) (sv : Value) (zs ns : List Int) (s0 : Int) (w : World) (hBs : Bs < w.heap.size) (hBn : Bn < w.heap.size) (hb : b < w.heap.size) (hcap : ns.length ≤ cap) (hcap2 : cap ≤ 9223372036854775807) (hlen : ns.length = zs.length)
    (hs : w.cell? ⟨Bs, 0, none⟩ = some sv) (hI : PtsAt w.heap.size w sv zs) (hn : w.cell? ⟨Bn, 0, none⟩ = some (.slice (some ⟨b, off, none⟩) ns.length cap)) (hc : ∀ j, j < ns.length → w.cell? ⟨b, off + j, none⟩ = some (.int .i64 (ptAt ns j))) :
    Calls Tryz.prog 81 #[.func (.func 99) #[] #[.pointer (some ⟨Bs, 0, none⟩)], .int .i64 s0, .func (.func 91) #[] #[.pointer (some ⟨Bn, 0, none⟩)]] w
      fun e W' => e = .returned (.int .i64 ((upF zs.length zs.length).foldl (stepC zs ns) s0)) ∧ Below w.heap.size w W' := by
  refine (callsIn_wide (n := 5)).1 ?_
  refine callsIn_of_wp_marks Tryz.func81 rfl trivial ?_ rfl
  simp only [Tryz.ntmps81, List.size_toArray, List.length_cons, List.length_nil, Nat.reduceAdd, Nat.reduceSub, Array.replicate_succ, Array.replicate_zero, List.push_toArray, List.append_toArray, List.nil_append, List.cons_append]
  have HC := Lib.hid hc
  clear hc
  gi_wp2
  have b4 := Boxed.new w 3 (.int .i64 s0)
  have b5 := Boxed.new (w.alloc (.cells #[.int .i64 s0] 3)) 69 (.func (.func 91) #[] #[.pointer (some ⟨Bn, 0, none⟩)])
  rw [World.size_alloc] at b5
  have hB0 : Below w.heap.size w ((w.alloc (.cells #[.int .i64 s0] 3)).alloc (.cells #[.func (.func 91) #[] #[.pointer (some ⟨Bn, 0, none⟩)]] 69)) := ((Below.refl _ w).alloc (Nat.le_refl _) _).alloc (by simp) _
  refine wpIn_rangeFunc_ownF rfl (by decide) (gf := 99) (lb := #[.pointer (some ⟨Bs, 0, none⟩)]) rfl trivial (enters_of Tryz.func99 (by kernel_rfl) rfl)
    (factors_stops (5 - 1) (by decide) Bs w.heap.size sv zs _ hBs (by simp; omega) ((hB0.cell (p := ⟨Bs, 0, none⟩) hBs).trans hs) (hI.below hB0)) belowK_t (belowK_b (by simp; omega)) (Below.refl _ _) (fun _ => rfl)
    (fun pre W => ((W.cell? ⟨w.heap.size, 0, none⟩ = some (.int .i64 (pre.foldl (stepC zs ns) s0)) ∧ W.frozen? ⟨w.heap.size, 0, none⟩ = false) ∧ W.cell? ⟨w.heap.size + 1, 0, none⟩ = some (.func (.func 91) #[] #[.pointer (some ⟨Bn, 0, none⟩)])) ∧ Below w.heap.size w W)
    (fun _ _ _ => False)
    (OwnFrom.and (Own.from (fun s A B row hs hg hr => ⟨⟨cell_kept hs.1.1 hg hr, (frozen_kept hs.1.1 hg hr).trans hs.1.2⟩, cell_kept hs.2 hg hr⟩) _) (ownFrom_below (Nat.le_refl _) (by simp; omega)))
    (fun _ _ _ _ _ hs _ _ => hs)
    ⟨⟨⟨(b4.alloc _).cell, (b4.alloc _).frozen⟩, b5.cell⟩, hB0⟩
    (fun x => { tmps := #[.func (.func 99) #[] #[.pointer (some ⟨Bs, 0, none⟩)], .int .i64 s0, .func (.func 91) #[] #[.pointer (some ⟨Bn, 0, none⟩)], undef, .pointer (some ⟨w.heap.size, 0, none⟩), .pointer (some ⟨w.heap.size + 1, 0, none⟩), .int .i64 0, .int .i64 (x.1 : Int), .int .i64 (facP zs x.1), .func (.func 99) #[] #[.pointer (some ⟨Bs, 0, none⟩)], .int .i64 (x.1 : Int), .int .i64 (facP zs x.1), undef, undef, undef, undef, undef, undef], defers := [] }) ?assign ?body ?done ?stop
  case assign =>
    intro l x W K hK
    gi_wp2
    exact hK
  case body =>
    rintro l pre x W ⟨⟨⟨hc4, hf4⟩, hc5⟩, hB⟩ _
    have hx : x.1 < ns.length := by rw [hlen]; exact x.2
    have hbx := (hB.cell (p := ⟨b, off + x.1, none⟩) hb).trans (HC.out x.1 hx)
    have hbn := (hB.cell (p := ⟨Bn, 0, none⟩) hBn).trans hn
    have hfp := facP_bd zs x.1
    have hsz := hB.size
    have h4l := World.block_lt_of_cell? W _ hc4
    obtain ⟨fp, hfe⟩ : ∃ fp, facP zs x.1 = fp := ⟨_, rfl⟩
    have HST := Lib.hid (foldl_snoc (stepC zs ns) s0 pre x)
    obtain ⟨acc, hacc⟩ : ∃ acc, pre.foldl (stepC zs ns) s0 = acc := ⟨_, rfl⟩
    have HSX := Lib.hid (show stepC zs ns acc x = (acc + ptAt ns x.1 * fp) % 1152921504606845789 by unfold stepC; rw [hfe])
    rw [hfe] at hfp ⊢
    rw [hacc] at hc4
    have HACC := Lib.hid hacc
    obtain ⟨fp0, fp1⟩ := hfp
    clear hacc hfe
    have hf4b := h4l
    gi_wp2_with fail
    refine ⟨trivial, (CallsIn.inRound l (callsIn_wide.2 (combine1_any Bn b off ns.length cap x.1 acc fp _ W hx hcap hcap2 hbn hbx))).mono ?_⟩
    rintro e W1 ⟨rfl, hO1⟩
    have hc41 := hO1.cell hc4 (fun h => h)
    have hf41 := (World.frozen?_of_block (hO1.block w.heap.size h4l (fun h => h))).trans hf4
    have hc51 := hO1.cell hc5 (fun h => h)
    have h4l1 : w.heap.size < W1.heap.size := Nat.lt_of_lt_of_le h4l hO1.size
    have HB1 := Lib.hid (hB.trans (hO1.below (Nat.le_trans hsz (Nat.le_refl _)) (fun _ _ h => h)))
    have HK1 := Lib.hid (keeps_only hO1)
    have HBW := Lib.hid (hO1.below (B := w.heap.size) hsz (fun _ _ h => h))
    clear hO1
    gi_wp2
    exact ⟨HK1.out.trans (KeepsOthers.setCell _ _ _), HBW.out.setCell (p := ⟨w.heap.size, 0, none⟩) (Nat.le_refl _) _, ⟨⟨by rw [HST.out, HACC.out, HSX.out]; exact World.cell?_setCell_same' _ _ _ (by rw [hc41]; rfl), by rw [World.frozen?_setCell]; exact hf41⟩, ((Only.refl (fun k => k = w.heap.size) W1).setCell (.inl rfl) _).cell hc51 (by simp)⟩, HB1.out.setCell (p := ⟨w.heap.size, 0, none⟩) (Nat.le_refl _) _⟩
  case done =>
    rintro D ys W hD rfl ⟨⟨⟨hc4, _⟩, _⟩, hB⟩ hK
    gi_wp2
    refine ⟨by simp, .inl ⟨_, _, rfl, run_takeDeferred hK, ?_⟩⟩
    exact ⟨_, results_tmp rfl _ _ _, rfl, hB.trans (belowK_b (w := w) (Nat.le_refl _) W D _ _ (by simp at hD; omega) hK rfl rfl)⟩
  case stop =>
    rintro D c pre W _ _ h _
    exact h.elim

set_option maxRecDepth 100000 in
set_option maxHeartbeats 2000000 in
theorem foldL_any (Bs Bn b off cap : Nat) (sv : Value) (zs ns : List Int) (s0 : Int) (w : World) (hBs : Bs < w.heap.size) (hBn : Bn < w.heap.size) (hb : b < w.heap.size) (hcap : ns.length ≤ cap) (hcap2 : cap ≤ 9223372036854775807) (hlen : ns.length = zs.length)
    (hs : w.cell? ⟨Bs, 0, none⟩ = some sv) (hI : PtsAt w.heap.size w sv zs) (hn : w.cell? ⟨Bn, 0, none⟩ = some (.slice (some ⟨b, off, none⟩) ns.length cap)) (hc : ∀ j, j < ns.length → w.cell? ⟨b, off + j, none⟩ = some (.int .i64 (ptAt ns j))) :
    Calls Tryz.prog 81 #[.func (.func 99) #[] #[.pointer (some ⟨Bs, 0, none⟩)], .int .i64 s0, .func (.func 83) #[] #[.pointer (some ⟨Bn, 0, none⟩)]] w
      fun e W' => e = .returned (.int .i64 ((upF zs.length zs.length).foldl (stepL zs ns) s0)) ∧ Below w.heap.size w W' := by
  refine (callsIn_wide (n := 5)).1 ?_
  refine callsIn_of_wp_marks Tryz.func81 rfl trivial ?_ rfl
  simp only [Tryz.ntmps81, List.size_toArray, List.length_cons, List.length_nil, Nat.reduceAdd, Nat.reduceSub, Array.replicate_succ, Array.replicate_zero, List.push_toArray, List.append_toArray, List.nil_append, List.cons_append]
  have HC := Lib.hid hc
  clear hc
  gi_wp2
  have b4 := Boxed.new w 3 (.int .i64 s0)
  have b5 := Boxed.new (w.alloc (.cells #[.int .i64 s0] 3)) 69 (.func (.func 83) #[] #[.pointer (some ⟨Bn, 0, none⟩)])
  rw [World.size_alloc] at b5
  have hB0 : Below w.heap.size w ((w.alloc (.cells #[.int .i64 s0] 3)).alloc (.cells #[.func (.func 83) #[] #[.pointer (some ⟨Bn, 0, none⟩)]] 69)) := ((Below.refl _ w).alloc (Nat.le_refl _) _).alloc (by simp) _
  refine wpIn_rangeFunc_ownF rfl (by decide) (gf := 99) (lb := #[.pointer (some ⟨Bs, 0, none⟩)]) rfl trivial (enters_of Tryz.func99 (by kernel_rfl) rfl)
    (factors_stops (5 - 1) (by decide) Bs w.heap.size sv zs _ hBs (by simp; omega) ((hB0.cell (p := ⟨Bs, 0, none⟩) hBs).trans hs) (hI.below hB0)) belowK_t (belowK_b (by simp; omega)) (Below.refl _ _) (fun _ => rfl)
    (fun pre W => ((W.cell? ⟨w.heap.size, 0, none⟩ = some (.int .i64 (pre.foldl (stepL zs ns) s0)) ∧ W.frozen? ⟨w.heap.size, 0, none⟩ = false) ∧ W.cell? ⟨w.heap.size + 1, 0, none⟩ = some (.func (.func 83) #[] #[.pointer (some ⟨Bn, 0, none⟩)])) ∧ Below w.heap.size w W)
    (fun _ _ _ => False)
    (OwnFrom.and (Own.from (fun s A B row hs hg hr => ⟨⟨cell_kept hs.1.1 hg hr, (frozen_kept hs.1.1 hg hr).trans hs.1.2⟩, cell_kept hs.2 hg hr⟩) _) (ownFrom_below (Nat.le_refl _) (by simp; omega)))
    (fun _ _ _ _ _ hs _ _ => hs)
    ⟨⟨⟨(b4.alloc _).cell, (b4.alloc _).frozen⟩, b5.cell⟩, hB0⟩
    (fun x => { tmps := #[.func (.func 99) #[] #[.pointer (some ⟨Bs, 0, none⟩)], .int .i64 s0, .func (.func 83) #[] #[.pointer (some ⟨Bn, 0, none⟩)], undef, .pointer (some ⟨w.heap.size, 0, none⟩), .pointer (some ⟨w.heap.size + 1, 0, none⟩), .int .i64 0, .int .i64 (x.1 : Int), .int .i64 (facP zs x.1), .func (.func 99) #[] #[.pointer (some ⟨Bs, 0, none⟩)], .int .i64 (x.1 : Int), .int .i64 (facP zs x.1), undef, undef, undef, undef, undef, undef], defers := [] }) ?assign ?body ?done ?stop
  case assign =>
    intro l x W K hK
    gi_wp2
    exact hK
  case body =>
    rintro l pre x W ⟨⟨⟨hc4, hf4⟩, hc5⟩, hB⟩ _
    have hx : x.1 < ns.length := by rw [hlen]; exact x.2
    have hbx := (hB.cell (p := ⟨b, off + x.1, none⟩) hb).trans (HC.out x.1 hx)
    have hbn := (hB.cell (p := ⟨Bn, 0, none⟩) hBn).trans hn
    have hfp := facP_bd zs x.1
    have hsz := hB.size
    have h4l := World.block_lt_of_cell? W _ hc4
    obtain ⟨fp, hfe⟩ : ∃ fp, facP zs x.1 = fp := ⟨_, rfl⟩
    have HST := Lib.hid (foldl_snoc (stepL zs ns) s0 pre x)
    obtain ⟨acc, hacc⟩ : ∃ acc, pre.foldl (stepL zs ns) s0 = acc := ⟨_, rfl⟩
    have HSX := Lib.hid (show stepL zs ns acc x = acc * powM (ptAt ns x.1) fp 2305843009213691579 % 2305843009213691579 by unfold stepL; rw [hfe])
    rw [hfe] at hfp ⊢
    rw [hacc] at hc4
    have HACC := Lib.hid hacc
    obtain ⟨fp0, fp1⟩ := hfp
    clear hacc hfe
    have hf4b := h4l
    gi_wp2_with fail
    refine ⟨trivial, (CallsIn.inRound l (callsIn_wide.2 (lift1_any Bn b off ns.length cap x.1 acc fp _ W hx hcap hcap2 fp0 fp1 hbn hbx))).mono ?_⟩
    rintro e W1 ⟨rfl, hO1⟩
    have hc41 := hO1.cell hc4 (fun h => h)
    have hf41 := (World.frozen?_of_block (hO1.block w.heap.size h4l (fun h => h))).trans hf4
    have hc51 := hO1.cell hc5 (fun h => h)
    have h4l1 : w.heap.size < W1.heap.size := Nat.lt_of_lt_of_le h4l hO1.size
    have HB1 := Lib.hid (hB.trans (hO1.below (Nat.le_trans hsz (Nat.le_refl _)) (fun _ _ h => h)))
    have HK1 := Lib.hid (keeps_only hO1)
    have HBW := Lib.hid (hO1.below (B := w.heap.size) hsz (fun _ _ h => h))
    clear hO1
    gi_wp2
    exact ⟨HK1.out.trans (KeepsOthers.setCell _ _ _), HBW.out.setCell (p := ⟨w.heap.size, 0, none⟩) (Nat.le_refl _) _, ⟨⟨by rw [HST.out, HACC.out, HSX.out]; exact World.cell?_setCell_same' _ _ _ (by rw [hc41]; rfl), by rw [World.frozen?_setCell]; exact hf41⟩, ((Only.refl (fun k => k = w.heap.size) W1).setCell (.inl rfl) _).cell hc51 (by simp)⟩, HB1.out.setCell (p := ⟨w.heap.size, 0, none⟩) (Nat.le_refl _) _⟩
  case done =>
    rintro D ys W hD rfl ⟨⟨⟨hc4, _⟩, _⟩, hB⟩ hK
    gi_wp2
    refine ⟨by simp, .inl ⟨_, _, rfl, run_takeDeferred hK, ?_⟩⟩
    exact ⟨_, results_tmp rfl _ _ _, rfl, hB.trans (belowK_b (w := w) (Nat.le_refl _) W D _ _ (by simp at hD; omega) hK rfl rfl)⟩
  case stop =>
    rintro D c pre W _ _ h _
    exact h.elim

set_option maxHeartbeats 400000 in
theorem combine_any (sv nv : Value) (zs ns : List Int) (w : World) (hI : PtsAt w.heap.size w sv zs) (hN : PtsAt w.heap.size w nv ns) (hlen : ns.length = zs.length) (hpos : 0 < zs.length) :
    Calls Tryz.prog 58 #[sv, nv] w fun e W' => e = .returned (.int .i64 ((upF zs.length zs.length).foldl (stepC zs ns) 0)) ∧ Below w.heap.size w W' := by
  rcases hN with ⟨a, c, rfl, rfl⟩ | ⟨b, off, cap, rfl, hb, h1, h2, hc⟩
  · simp at hlen; omega
  · have hsv : ∃ a n c, sv = .slice a n c := by
      rcases hI with ⟨a, c, rfl, _⟩ | ⟨b, off, cap, rfl, _⟩
      · exact ⟨_, _, _, rfl⟩
      · exact ⟨_, _, _, rfl⟩
    have HC := Lib.hid hc
    have HI := Lib.hid hI
    have HLEN := Lib.hid hlen
    clear hc hI hlen
    go_enter Tryz.func58, Tryz.ntmps58
    go_wp2_with fail
    refine (factors_any sv hsv _).mono ?_
    rintro e w' ⟨rfl, rfl⟩
    have hB0 : Below w.heap.size w ((w.alloc (.cells #[.slice (some ⟨b, off, none⟩) ns.length cap] 22)).alloc (.cells #[sv] 22)) := ((Below.refl _ w).alloc (Nat.le_refl _) _).alloc (by simp) _
    have b4 := Boxed.new w 22 (.slice (some ⟨b, off, none⟩) ns.length cap)
    have b5 := Boxed.new (w.alloc (.cells #[.slice (some ⟨b, off, none⟩) ns.length cap] 22)) 22 sv
    rw [World.size_alloc] at b5
    have HB0 := Lib.hid hB0
    have HF := Lib.hid (foldC_any (w.heap.size + 1) w.heap.size b off cap sv zs ns 0 ((w.alloc (.cells #[.slice (some ⟨b, off, none⟩) ns.length cap] 22)).alloc (.cells #[sv] 22)) (by simp) (by simp; omega) (by simp; omega) h1 h2 HLEN.out b5.cell
      ((HI.out.below hB0).mono (by simp; omega)) (b4.alloc _).cell (fun j hj => (hB0.cell (p := ⟨b, off + j, none⟩) hb).trans (HC.out j hj)))
    clear b4 b5 hB0
    go_wp2_with fail
    refine HF.out.mono ?_
    rintro e w1 ⟨rfl, hB⟩
    have HB := Lib.hid (HB0.out.trans (hB.mono (by simp; omega)))
    clear hB HF
    go_wp2
    go_ret
    exact ⟨rfl, HB.out⟩

set_option maxHeartbeats 400000 in
theorem lift_any (sv nv : Value) (zs ns : List Int) (w : World) (hI : PtsAt w.heap.size w sv zs) (hN : PtsAt w.heap.size w nv ns) (hlen : ns.length = zs.length) (hpos : 0 < zs.length) :
    Calls Tryz.prog 54 #[sv, nv] w fun e W' => e = .returned (.int .i64 ((upF zs.length zs.length).foldl (stepL zs ns) 1)) ∧ Below w.heap.size w W' := by
  rcases hN with ⟨a, c, rfl, rfl⟩ | ⟨b, off, cap, rfl, hb, h1, h2, hc⟩
  · simp at hlen; omega
  · have hsv : ∃ a n c, sv = .slice a n c := by
      rcases hI with ⟨a, c, rfl, _⟩ | ⟨b, off, cap, rfl, _⟩
      · exact ⟨_, _, _, rfl⟩
      · exact ⟨_, _, _, rfl⟩
    have HC := Lib.hid hc
    have HI := Lib.hid hI
    have HLEN := Lib.hid hlen
    clear hc hI hlen
    go_enter Tryz.func54, Tryz.ntmps54
    go_wp2_with fail
    refine (factors_any sv hsv _).mono ?_
    rintro e w' ⟨rfl, rfl⟩
    have hB0 : Below w.heap.size w ((w.alloc (.cells #[.slice (some ⟨b, off, none⟩) ns.length cap] 22)).alloc (.cells #[sv] 22)) := ((Below.refl _ w).alloc (Nat.le_refl _) _).alloc (by simp) _
    have b4 := Boxed.new w 22 (.slice (some ⟨b, off, none⟩) ns.length cap)
    have b5 := Boxed.new (w.alloc (.cells #[.slice (some ⟨b, off, none⟩) ns.length cap] 22)) 22 sv
    rw [World.size_alloc] at b5
    have HB0 := Lib.hid hB0
    have HF := Lib.hid (foldL_any (w.heap.size + 1) w.heap.size b off cap sv zs ns 1 ((w.alloc (.cells #[.slice (some ⟨b, off, none⟩) ns.length cap] 22)).alloc (.cells #[sv] 22)) (by simp) (by simp; omega) (by simp; omega) h1 h2 HLEN.out b5.cell
      ((HI.out.below hB0).mono (by simp; omega)) (b4.alloc _).cell (fun j hj => (hB0.cell (p := ⟨b, off + j, none⟩) hb).trans (HC.out j hj)))
    clear b4 b5 hB0
    go_wp2_with fail
    refine HF.out.mono ?_
    rintro e w1 ⟨rfl, hB⟩
    have HB := Lib.hid (HB0.out.trans (hB.mono (by simp; omega)))
    clear hB HF
    go_wp2
    go_ret
    exact ⟨rfl, HB.out⟩
end Go.Proofs.YtalclldccnichaaGreat
