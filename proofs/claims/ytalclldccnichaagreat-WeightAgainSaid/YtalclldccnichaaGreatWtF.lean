/-
  The reference's Commits; plain: the keys of a group that was made. Plain: the made group is right, its dealings fit. The laws' own function bent.
-/
import Derived.Test.YtalclldccnichaaGreatWtE
import Derived.Test.YtalclldccnichaaGreatJnLaw
namespace Go.Proofs.YtalclldccnichaaGreat
open Go.RowKit

set_option maxHeartbeats 1000000 in
theorem rcommits_any (sv : Value) (l : List Int) (w : World) (hI : PtsAt w.heap.size w sv l) (hn : l.length ≤ 1000) (hb : ∀ j, 0 ≤ ptAt l j ∧ ptAt l j ≤ 9223372036854775807) :
    Calls Tryz.prog 12 #[sv] w (ListPost w (cmTo l l.length)) := by
  obtain ⟨i0, hi0, hz0, hz1, hz2⟩ := info_parts Tryz.infoI
  obtain ⟨a, c, rfl⟩ := hI.slice
  have HI := Lib.hid hI
  have HB := Lib.hid hb
  clear hI hb
  go_enter Tryz.func12, Tryz.ntmps12
  go_wp2_with fail
  go_loopw [3, 4] (fun vo vi wr => ∃ k : Nat, k ≤ l.length ∧ vi = .int .i64 k ∧ wr.ownsRow w.heap.size 3 1 vo k (irow (cmTo l k)) ∧ Only (fun _ => False) w wr) (fun _ vi _ => l.length - (intOf vi).toNat)
  case atStart => exact ⟨0, Nat.zero_le _, rfl, World.ownsRow_nil _ _ _ _, Only.refl _ _⟩
  case round =>
    obtain ⟨k, hk, rfl, hown, hO⟩ := hrel
    have HO := Lib.hid hO
    have HOWN := Lib.hid hown
    by_cases hlt : k < l.length
    · obtain ⟨b, off, rfl, hb, hl0, hc1, hc2, hcell⟩ := (HI.out.only hO).cellAt hlt
      obtain ⟨b0, b1⟩ := HB.out k
      have HPB := Lib.hid (fun w => public_is (ptAt l k) _ w b0 b1 rfl)
      have HPN := Lib.hid (show cmTo l (k + 1) = cmTo l k ++ [powM 4 (ptAt l k) 2305843009213691579] from rfl)
      generalize powM 4 (ptAt l k) 2305843009213691579 = z at *
      generalize ptAt l k = x at *
      generalize cmTo l k = L at *
      obtain ⟨av, cv, rfl⟩ := slice_of_own hown
      have hown2 := hown.alloc (.cells #[.int .i64 z] 3)
      have hsz2 := hO.size
      have i1 : (k : Int) < l.length := by omega
      clear hO hown hl0
      go_wp2_with fail
      refine (HPB.out _).mono ?_
      rintro e w1 ⟨rfl, rfl⟩
      go_wp2_with (at_builtin; refine wpList_append_lies _ rfl _ _ 22 rfl w.heap.size 3 i0 _ 1 8 Tryz.underlying22 hi0 hz0 hz1 hz2 rfl (by decide) _ k (irow L) rfl hown2 ⟨wr.heap.size, 0, none⟩ 1 1 [.int .i64 z] rfl rfl (cell_one_new _ _ _) (one_int _) (by decide) ?c1 ?c2 ?c3 _ rfl ?_)
      case c1 => unfold maxLen; omega
      case c2 => omega
      case c3 => first | omega | (simp; omega)
      intro g1 cp1 w3 ho1 hg1 ha1 hgl1
      have HO3 := Lib.hid ((HO.out.alloc (.cells #[.int .i64 z] 3)).grow hown2 (Nat.le_refl _) hg1)
      have HOW := Lib.hid ho1
      clear ho1 hg1 ha1 hown2
      go_wp2
      go_roundw
      case rel => exact ⟨k + 1, by omega, by go_num, by rw [HPN.out, irow_append]; exact HOW.out, HO3.out⟩
      case measure => simp [intOf]; omega
    · obtain rfl : k = l.length := by omega
      have HR := Lib.hid (show ListPost w (cmTo l l.length) (.returned u3) wr from ⟨u3, rfl, by rw [cmTo_len]; exact hown, hO⟩)
      obtain ⟨av, cv, rfl⟩ := slice_of_own hown
      clear hO hown
      go_wp2
      go_ret
      exact HR.out
/-- Powers of one base: exponents add. -/
theorem pow_addQ {a x y : Int} (h : memB a = true) (hx : 0 ≤ x) (hx2 : x < 1152921504606845789) (hy : 0 ≤ y) (hy2 : y < 1152921504606845789) : powM a x 2305843009213691579 * powM a y 2305843009213691579 % 2305843009213691579 = powM a ((x + y) % 1152921504606845789) 2305843009213691579 := by
  have hin := ((memB_iff a).1 h).2.2
  have hz := emod_self_lt (x + y) 1152921504606845789 (by decide)
  have h1 := powM_cong a x 2305843009213691579 hx (by omega)
  have h2 := powM_cong a y 2305843009213691579 hy (by omega)
  have h3 := powM_cong a ((x + y) % 1152921504606845789) 2305843009213691579 hz.1 (by omega)
  have h4 := hin.exp (x.toNat + y.toNat)
  have e : (x.toNat + y.toNat) % 1152921504606845789 = ((x + y) % 1152921504606845789).toNat := by omega
  rw [e, Int.pow_add] at h4
  have hc : Cong 2305843009213691579 (powM a x 2305843009213691579 * powM a y 2305843009213691579) (powM a ((x + y) % 1152921504606845789) 2305843009213691579) := (h1.mul h2).trans (Cong.trans (show Cong 2305843009213691579 _ _ from h4) h3.symm)
  rw [hc.emod]
  have hb := powM_bd a ((x + y) % 1152921504606845789) 2305843009213691579 (by decide)
  exact Int.emod_eq_of_lt hb.1 hb.2
theorem cmTo_at (cs : List Int) : ∀ k j, j < k → ptAt (cmTo cs k) j = powM 4 (ptAt cs j) 2305843009213691579
  | k + 1, j, h => by
    rw [cmTo, ptAt_append, cmTo_len]
    by_cases e : j < k
    · rw [if_pos e, cmTo_at cs k j e]
    · obtain rfl : j = k := by omega
      rw [if_neg e, if_pos rfl]
theorem powM_zero4 : powM 4 0 2305843009213691579 = 1 := by kernel_rfl
/-- The product of the commitments is the commitment of the sum. -/
theorem prod_coef (l : List Mb) (nd j : Nat) (hj : j < nd) : ∀ k, k ≤ l.length → prodTo (dlsTo l firstS nd l.length) j k = powM 4 (ptAt (coefTo l nd k) j) 2305843009213691579
  | 0, _ => by rw [prodTo, coefTo, zerosL_at, powM_zero4]
  | k + 1, h => by
    have ih := prod_coef l nd j hj k (by omega)
    have hb := coefTo_bd l nd k j
    have hp := polyTo_bd (seedOf l k) nd j
    rw [prodTo, ih, dlsTo_at _ _ _ _ _ (show k < l.length by omega), coefTo, addTo_in _ _ _ _ hj (by rw [coefTo_len]; exact hj)]
    have e : ptAt (dlOf l firstS nd k).cm j = powM 4 (ptAt (polyTo (seedOf l k) nd) j) 2305843009213691579 := by
      unfold dlOf dealZ
      dsimp only
      rw [polyTo_len, cmTo_at _ _ _ hj]
      rfl
    rw [e]
    exact pow_addQ mem_four hb.1 hb.2 hp.1 hp.2
theorem comm_coef (zs : List Int) : commZ zs = cmTo (coefZ zs) (ndZ zs) := by
  have hl : (dealsZ zs).length = (crewZ zs).length := dlsTo_len _ _ _ _
  unfold commZ
  rw [mix_col]
  refine list_ext (by rw [colTo_len, cmTo_len]) (fun j hj => ?_)
  rw [colTo_len] at hj
  rw [colTo_in _ _ _ j hj hj, cmTo_at _ _ _ hj, hl]
  unfold dealsZ coefZ
  exact prod_coef _ _ _ hj _ (Nat.le_refl _)
theorem upI_at (s : Int) : ∀ (m t : Nat), t < m → ptAt (upI s m) t = s + t + 1
  | m + 1, t, h => by
    rw [upI, ptAt_append, upI_len]
    by_cases e : t < m
    · rw [if_pos e, upI_at s m t e]
    · obtain rfl : t = m := by omega
      rw [if_neg e, if_pos rfl]
theorem rowOk_up (s m : Nat) : ∀ t, t ≤ m → rowOkTo s (upI (s : Int) m) t = true
  | 0, _ => rfl
  | t + 1, h => by rw [rowOkTo, rowOk_up s m t (by omega), upI_at (s : Int) m t (by omega), decide_eq_true rfl]; rfl
theorem rows_points {l : List Mb} (h : rightB l = true) : ∀ k, k ≤ l.length → rowsOk (pointsOf l) k = true
  | 0, _ => rfl
  | k + 1, hk => by
    have hw := (mbOk_wt l l.length (right_parts h).2.1).1 k (by omega)
    have hg := grid_points h k (by omega)
    rw [rowsOk, rows_points h k (by omega), pointsOf_at l k (by omega), rowsAt_len, decide_eq_true (show 0 < (mbAt l k).wt.toNat by omega)]
    unfold rowsAt
    rw [← hg, rowOk_up _ _ _ (Nat.le_refl _)]
    rfl
/-- Keys of a group that was made are right. -/
theorem right_keys {l : List Mb} {cm : List Int} (h : rightB l = true) (hl : cm.length = ndOf l) (hm : membersB cm = true) : rightKB (pointsOf l) cm = true := by
  obtain ⟨s1, s2, s3, s4, s5, s6, s7, s8⟩ := right_sum h
  unfold rightKB
  rw [pointsOf_len, rows_points h _ (Nat.le_refl _), s2, hm, hl, s5, decide_eq_true s3, decide_eq_true s4, decide_eq_true rfl]
  rfl
theorem comm_mem (zs : List Int) : membersB (commZ zs) = true := by
  rw [comm_coef]
  exact cmTo_mem _ (fun j => coefTo_bd _ _ _ j) _
end Go.Proofs.YtalclldccnichaaGreat

namespace Go.Proofs.YtalclldccnichaaGreat
open Go.RowKit

theorem made_right (zs : List Int) : rightB (crewZ zs) = true := crew_right zs 1
theorem made_ok (zs : List Int) : CrewOk (crewZ zs) (ndZ zs) := crew_ok zs 1 (by decide)
/-- The dealings of a group that was made fit. -/
theorem made_fit (zs : List Int) : begB (crewZ zs) (dealsZ zs) = true := by
  have hr := made_right zs
  have hk := made_ok zs
  have hs := right_sum hr
  have ht := crew_tot hr hk
  have hl : (dealsZ zs).length = (crewZ zs).length := dlsTo_len _ _ _ _
  have hn : (boxTo (crewZ zs) (crewZ zs).length).length = nOf (crewZ zs) := by have := ht.1; have := hs.2.2.2.2.2.2.2; omega
  unfold begB
  rw [hr, decide_eq_true (show 1 ≤ (dealsZ zs).length by rw [hl]; exact hk.len1), fit_yes]
  · rfl
  · intro j hj
    rw [hl] at hj
    have h1 := dl_ok (crewZ zs) firstS (ndZ zs) (nOf (crewZ zs)) j hk.nd1 hk.nd2 hn
    have e : dlAt (dealsZ zs) j = dlOf (crewZ zs) firstS (ndZ zs) j := dlsTo_at _ _ _ _ _ hj
    rw [e, decide_eq_true (show (dlOf (crewZ zs) firstS (ndZ zs) j).cm.length = ndOf (crewZ zs) from h1.2), Bool.and_true]
    have hc := h1.1
    unfold chkB
    rw [decide_eq_true hc.bl, decide_eq_true hc.c1, decide_eq_true hc.c2, hc.cm, hc.pt, b16_yes _ (fun k hk => hc.b16 k (by have := hc.bl; omega))]
    rfl
theorem made_col (zs : List Int) : colTo (dealsZ zs) (ndOf (crewZ zs)) (ndOf (crewZ zs)) = commZ zs := by
  unfold commZ
  rw [mix_col]
  rfl
theorem short_points {l : List Mb} (h : rightB l = true) : Short (pointsOf l) := by
  obtain ⟨⟨h1, h2⟩, h3, h4⟩ := right_parts h
  intro j
  by_cases hj : j < l.length
  · rw [pointsOf_at l j hj, rowsAt_len]
    have := ((mbOk_wt l l.length h3).1 j hj).2
    omega
  · have : (pointsOf l).getD j [] = [] := by simp [List.getD, List.getElem?_eq_none (show (pointsOf l).length ≤ j by rw [pointsOf_len]; omega)]
    rw [this]; decide
theorem deals_short {qs : List (Value × Dl × Value)} {l : List Mb} {seed : ByteArray} {nd k : Nat} (hq : qs.map (·.2.1) = dlsTo l seed nd k) : ∀ q ∈ qs, q.2.1.cm.length = nd ∧ q.2.1.bx.length = (boxTo l l.length).length := by
  intro q hm
  obtain ⟨j, hj, rfl⟩ := List.mem_iff_getElem.1 hm
  have hk : qs.length = k := by have := congrArg List.length hq; rw [List.length_map, dlsTo_len] at this; exact this
  have h1 : qs[j].2.1 = dlAt (dlsTo l seed nd k) j := by rw [← hq]; simp [dlAt, List.getD, hj]
  rw [h1, dlsTo_at _ _ _ _ _ (by omega)]
  unfold dlOf dealZ
  dsimp only
  rw [cmTo_len, polyTo_len, bxTo_len]
  exact ⟨rfl, rfl⟩

end Go.Proofs.YtalclldccnichaaGreat

namespace Go.Proofs.YtalclldccnichaaGreat
open Go.RowKit

theorem own_ty {w : World} {b e s n g : Nat} {v : Value} {xs : List Value} (h : w.ownsRow b e s v n xs) (hg : v.ownBlock = some g) : ∃ cur, w.heap[g]? = some (.cells cur e (0, 0)) := by
  rcases h.2 with ⟨rfl, _⟩ | ⟨g', cap, cur, rfl, _, hgg, _⟩
  · simp [Value.ownBlock] at hg
  · obtain rfl : g' = g := by simpa [Value.ownBlock] using hg
    exact ⟨cur, hgg⟩
theorem own_ne_ty {w : World} {b e s n b' e' s' n' : Nat} {v v' : Value} {xs xs' : List Value} (h : w.ownsRow b e s v n xs) (h' : w.ownsRow b' e' s' v' n' xs') (hne : e ≠ e') (k : Nat) (hk : v.ownBlock = some k) : v'.ownBlock ≠ some k := by
  intro hk'
  obtain ⟨c, hc⟩ := own_ty h hk
  obtain ⟨c', hc'⟩ := own_ty h' hk'
  rw [hc] at hc'
  simp only [Option.some.injEq, Obj.cells.injEq] at hc'
  exact hne hc'.2.1
theorem own_ne_blk {w : World} {b e s n g t : Nat} {v : Value} {xs : List Value} {cs : Array Value} {fr : Nat × Nat} (h : w.ownsRow b e s v n xs) (hb : w.heap[g]? = some (.cells cs t fr)) (hne : e ≠ t) : v.ownBlock ≠ some g := by
  intro hk
  obtain ⟨c, hc⟩ := own_ty h hk
  rw [hc] at hb
  simp only [Option.some.injEq, Obj.cells.injEq] at hb
  exact hne hb.2.1
theorem own_set' {w : World} {base e n j g cap size : Nat} {xs : List Value} (h : w.ownsRow base e size (.slice (some ⟨g, 0, none⟩) n cap) n xs) (u : Value) : (w.setCell ⟨g, j, none⟩ u).ownsRow base e size (.slice (some ⟨g, 0, none⟩) n cap) n (xs.set j u) := by
  refine ⟨by rw [List.length_set]; exact h.1, ?_⟩
  rcases h.2 with ⟨hn, _⟩ | ⟨g', cap', cur, hv, hb, hg, hcap, hcap2, hsz, htk⟩
  · simp at hn
  · simp only [Value.slice.injEq, Option.some.injEq, Addr.mk.injEq, and_true, true_and] at hv
    obtain ⟨rfl, rfl⟩ := hv
    refine .inr ⟨g, cap, cur.setIfInBounds j u, rfl, hb, heap_setCell_same w g j cur e u hg, hcap, hcap2, by rw [Array.size_setIfInBounds]; exact hsz, ?_⟩
    rw [Array.toList_setIfInBounds, List.take_set, htk]
theorem own_empty (w : World) (base e size : Nat) (hb : base ≤ w.heap.size) : (w.alloc (.cells #[] e)).ownsRow base e size (.slice (some ⟨w.heap.size, 0, none⟩) 0 0) 0 [] :=
  ⟨by simp, .inr ⟨w.heap.size, 0, #[], rfl, hb, heap_alloc_last w _, Nat.le_refl _, by decide, by simp, by simp⟩⟩
theorem mbs_news {w : World} {b off : Nat} {l : List Mb} (hc : ∀ j, j < l.length → w.cell? ⟨b, off + j * 3, none⟩ = some (.int .i64 (mbAt l j).id) ∧ w.cell? ⟨b, off + j * 3 + 1, none⟩ = some (.int .i64 (mbAt l j).wt) ∧ w.cell? ⟨b, off + j * 3 + 2, none⟩ = some (.int .i64 (mbAt l j).pb)) : ∀ j u, (mrow l)[j]? = some u → w.cell? ((⟨b, off, none⟩ : Addr).add j) = some u := by
  intro j u hu
  have hl : (mrow l).length = l.length * 3 := by
    clear hc hu
    induction l with
    | nil => rfl
    | cons m l ih => rw [show mrow (m :: l) = [.int .i64 m.id, .int .i64 m.wt, .int .i64 m.pb] ++ mrow l by simp [mrow], List.length_append, ih]; simp; omega
  have hj : j < l.length * 3 := by rw [← hl]; exact (List.getElem?_eq_some_iff.1 hu).1
  have hadd : (⟨b, off, none⟩ : Addr).add j = ⟨b, off + j, none⟩ := by unfold Addr.add; split <;> simp_all
  rw [hadd]
  obtain ⟨k, r, hr, rfl⟩ : ∃ k r, r < 3 ∧ j = k * 3 + r := ⟨j / 3, j % 3, by omega, by omega⟩
  have h1 := mrow_at l k (by omega)
  have h2 := hc k (by omega)
  match r, hr with
  | 0, _ => rw [Nat.add_zero, h1.1] at hu; rw [Nat.add_zero, h2.1]; exact hu
  | 1, _ => rw [h1.2.1] at hu; rw [← Nat.add_assoc, h2.2.1]; exact hu
  | 2, _ => rw [h1.2.2] at hu; rw [← Nat.add_assoc, h2.2.2]; exact hu
theorem mrow_one (l : List Mb) : ∀ u ∈ mrow l, u.oneCell' = true := by
  intro u hu
  unfold mrow at hu
  rw [List.mem_flatMap] at hu
  obtain ⟨m, _, hm⟩ := hu
  simp only [List.mem_cons, List.not_mem_nil, or_false] at hm
  rcases hm with rfl | rfl | rfl <;> rfl
theorem mrow_len (l : List Mb) : (mrow l).length = l.length * 3 := by
  induction l with
  | nil => rfl
  | cons m l ih => rw [show mrow (m :: l) = [.int .i64 m.id, .int .i64 m.wt, .int .i64 m.pb] ++ mrow l by simp [mrow], List.length_append, ih]; simp; omega
theorem rowD_len (qs : List (Value × Dl × Value)) : (rowD qs).length = qs.length * 3 := by
  induction qs with
  | nil => rfl
  | cons m l ih => rw [show rowD (m :: l) = [m.1, .int .i64 m.2.1.pt, m.2.2] ++ rowD l by simp [rowD], List.length_append, ih]; simp; omega
theorem rowD_one {qs : List (Value × Dl × Value)} (h : ∀ q ∈ qs, q.1.oneCell' = true ∧ q.2.2.oneCell' = true) : ∀ u ∈ rowD qs, u.oneCell' = true := by
  intro u hu
  unfold rowD at hu
  rw [List.mem_flatMap] at hu
  obtain ⟨m, hm, hx⟩ := hu
  simp only [List.mem_cons, List.not_mem_nil, or_false] at hx
  rcases hx with rfl | rfl | rfl
  · exact (h m hm).1
  · rfl
  · exact (h m hm).2
theorem rowD_set : ∀ (qs : List (Value × Dl × Value)) (i : Nat) (a c : Value) (d : Dl), i < qs.length → (((rowD qs).set (i * 3) a).set (i * 3 + 1) (.int .i64 d.pt)).set (i * 3 + 2) c = rowD (qs.set i (a, d, c))
  | q :: qs, 0, a, c, d, _ => by simp [rowD]
  | q :: qs, i + 1, a, c, d, h => by
    have ih := rowD_set qs i a c d (by simpa using h)
    have e : ∀ (x : Value × Dl × Value) (l : List (Value × Dl × Value)), rowD (x :: l) = x.1 :: .int .i64 x.2.1.pt :: x.2.2 :: rowD l := fun x l => by simp [rowD]
    rw [List.set_cons_succ, e, e, ← ih, show (i + 1) * 3 = i * 3 + 1 + 1 + 1 by omega, show i * 3 + 1 + 1 + 1 + 1 = i * 3 + 1 + 1 + 1 + 1 from rfl]
    simp only [List.set_cons_succ, show i * 3 + 1 + 1 + 1 + 2 = (i * 3 + 2) + 1 + 1 + 1 by omega]
/-- The state of bent: X is the block of the dealing that is changed. -/
structure BtAt (w wr : World) (q0 q1 q2 : Int) (vo vc : Value) (X : Nat) (cv bv : Value) (pt : Int) (qs : List (Value × Dl × Value)) (l : List Mb) (cs : List Int) (bs : List ByteArray) : Prop where
  q : wr.heap[w.heap.size]? = some (.cells #[.int .i64 q0, .int .i64 q1, .int .i64 q2] 23 (0, 0))
  out : wr.ownsRow (w.heap.size + 1) 72 3 vo qs.length (rowD qs)
  crew : wr.ownsRow (w.heap.size + 1) 68 3 vc l.length (mrow l)
  blk : wr.heap[X]? = some (.cells #[cv, .int .i64 pt, bv] 72 (0, 0))
  cm : wr.ownsRow (w.heap.size + 1) 3 1 cv cs.length (irow cs)
  bx : wr.ownsRow (w.heap.size + 1) 9 1 bv bs.length (srowS bs)
  ne : vo.ownBlock ≠ some X
  low : w.heap.size < X
  only : Only (fun _ => False) w wr
theorem BtAt.frame {w wr w' : World} {q0 q1 q2 pt : Int} {vo vc cv bv : Value} {X : Nat} {qs : List (Value × Dl × Value)} {l : List Mb} {cs : List Int} {bs : List ByteArray} (h : BtAt w wr q0 q1 q2 vo vc X cv bv pt qs l cs bs) (hO : Only (fun _ => False) wr w') : BtAt w w' q0 q1 q2 vo vc X cv bv pt qs l cs bs :=
  ⟨row_still hO h.q, hO.owns h.out (fun _ _ h => h), hO.owns h.crew (fun _ _ h => h), row_still hO h.blk, hO.owns h.cm (fun _ _ h => h), hO.owns h.bx (fun _ _ h => h), h.ne, h.low, h.only.trans hO⟩
/-- Dealings and members come back. -/
def BentPost (w : World) (e : Ending) (w' : World) : Prop := Only (fun _ => False) w w' ∧ ∃ v6 v7 ds l, e = .returned (.tuple #[v6, v7]) ∧ DlsAt w' v6 ds ∧ DlsS ds ∧ MbsAt w' v7 l ∧ MbsW l
end Go.Proofs.YtalclldccnichaaGreat
