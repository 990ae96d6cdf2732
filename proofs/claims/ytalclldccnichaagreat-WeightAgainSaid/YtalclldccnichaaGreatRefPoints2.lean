/-
  The reference's Points.
-/
import Derived.Test.YtalclldccnichaaGreatRefPoints
namespace Go.Proofs.YtalclldccnichaaGreat
open Go.RowKit

/-- Rows that are collected, and the row that is being made. -/
structure Coll (w wr : World) (base : Nat) (v : Value) (us : List Value) (rows : List (List Int)) (o : Value) (r : List Int) : Prop where
  out : wr.ownsRow base 22 1 v us.length us
  len : us.length = rows.length
  own : ∀ j, j < us.length → wr.ownsRow base 3 1 (us.getD j undef) (rows.getD j []).length (irow (rows.getD j []))
  cur : wr.ownsRow base 3 1 o r.length (irow r)
  f1 : ∀ b, v.ownBlock = some b → o.ownBlock ≠ some b
  f2 : ∀ b, v.ownBlock = some b → ∀ j, j < us.length → (us.getD j undef).ownBlock ≠ some b
  f3 : ∀ b, o.ownBlock = some b → ∀ j, j < us.length → (us.getD j undef).ownBlock ≠ some b
  only : Only (fun _ => False) w wr
  low : w.heap.size ≤ base
theorem Coll.frame {w wr w' : World} {base : Nat} {v o : Value} {us : List Value} {rows : List (List Int)} {r : List Int} (h : Coll w wr base v us rows o r) (hO : Only (fun _ => False) wr w') : Coll w w' base v us rows o r :=
  ⟨hO.owns h.out (fun _ _ h => h), h.len, fun j hj => hO.owns (h.own j hj) (fun _ _ h => h), hO.owns h.cur (fun _ _ h => h), h.f1, h.f2, h.f3, h.only.trans hO, h.low⟩
theorem Coll.grow {w wn w' : World} {base t : Nat} {v o : Value} {us : List Value} {rows : List (List Int)} {r : List Int} (h : Coll w wn base v us rows o r) (ht : r.length = t) {g cap : Nat} {x : Int}
    (hown : w'.ownsRow base 3 1 (.slice (some ⟨g, 0, none⟩) (t + 1) cap) (t + 1) (irow r ++ [.int .i64 x])) (hg : wn.grownBy w' o.ownBlock) (hat : o.ownBlock = some g ∨ g = wn.heap.size) :
    Coll w w' base v us rows (.slice (some ⟨g, 0, none⟩) (t + 1) cap) (r ++ [x]) := by
  subst ht
  have hO : Only (fun k => o.ownBlock = some k) wn w' := (Only.refl _ wn).grown hg (fun k e _ => e)
  have e : ∀ k, (Value.slice (some ⟨g, 0, none⟩) (r.length + 1) cap).ownBlock = some k → k = g := fun k hk => by simpa [Value.ownBlock] using hk.symm
  refine ⟨hO.owns h.out (fun k hv ho => h.f1 k hv ho), h.len, fun j hj => hO.owns (h.own j hj) (fun k hu ho => h.f3 k ho j hj hu), by rw [List.length_append, List.length_singleton, irow_append]; exact hown, ?_, h.f2, ?_, ?_, h.low⟩
  · intro b hb he
    obtain rfl := e b he
    rcases hat with hat | hat
    · exact h.f1 b hb hat
    · have := (own_lt h.out hb).1; omega
  · intro b he j hj hu
    obtain rfl := e b he
    rcases hat with hat | hat
    · exact h.f3 b hat j hj hu
    · have := (own_lt (h.own j hj) hu).1; omega
  · exact h.only.trans' hO (fun i hi hp => by have := (own_lt h.cur hp).2; have := h.low; omega)
theorem getD_snoc {α : Type} (a : List α) (x d : α) (j : Nat) : (a ++ [x]).getD j d = if j < a.length then a.getD j d else if j = a.length then x else d := by
  simp only [List.getD]
  split
  · rename_i h; rw [List.getElem?_append_left h]
  · split
    · rename_i h1 h2; subst h2; simp
    · rename_i h1 h2; rw [List.getElem?_eq_none (by simp; omega)]; rfl
theorem Coll.shut {w wn w' : World} {base n : Nat} {v o : Value} {us : List Value} {rows : List (List Int)} {r : List Int} (h : Coll w wn base v us rows o r) (hn : us.length = n) {g cap : Nat}
    (hown : w'.ownsRow base 22 1 (.slice (some ⟨g, 0, none⟩) (n + 1) cap) (n + 1) (us ++ [o])) (hg : wn.grownBy w' v.ownBlock) (hat : v.ownBlock = some g ∨ g = wn.heap.size) :
    Coll w w' base (.slice (some ⟨g, 0, none⟩) (n + 1) cap) (us ++ [o]) (rows ++ [r]) (.slice none 0 0) [] := by
  subst hn
  have hO : Only (fun k => v.ownBlock = some k) wn w' := (Only.refl _ wn).grown hg (fun k e _ => e)
  have e : ∀ k, (Value.slice (some ⟨g, 0, none⟩) (us.length + 1) cap).ownBlock = some k → k = g := fun k hk => by simpa [Value.ownBlock] using hk.symm
  refine ⟨by rw [List.length_append, List.length_singleton]; exact hown, by simp [h.len], fun j hj => ?_, World.ownsRow_nil _ _ _ _, fun b _ hb => by simp [Value.ownBlock] at hb, fun b he j hj hu => ?_, fun b hb => by simp [Value.ownBlock] at hb, ?_, h.low⟩
  · rw [List.length_append, List.length_singleton] at hj
    rw [getD_snoc, getD_snoc, ← h.len]
    by_cases h1 : j < us.length
    · rw [if_pos h1, if_pos h1]
      exact hO.owns (h.own j h1) (fun k hu hv => h.f2 k hv j h1 hu)
    · rw [if_neg h1, if_neg h1, if_pos (by omega), if_pos (by omega)]
      exact hO.owns h.cur (fun k ho hv => h.f1 k hv ho)
  · obtain rfl := e b he
    rw [List.length_append, List.length_singleton] at hj
    rw [getD_snoc] at hu
    by_cases h1 : j < us.length
    · rw [if_pos h1] at hu
      rcases hat with hat | hat
      · exact h.f2 b hat j h1 hu
      · have := (own_lt (h.own j h1) hu).1; omega
    · rw [if_neg h1, if_pos (by omega)] at hu
      rcases hat with hat | hat
      · exact h.f1 b hat hu
      · have := (own_lt h.cur hu).1; omega
  · exact h.only.trans' hO (fun i hi hp => by have := (own_lt h.out hp).2; have := h.low; omega)
theorem Coll.slices {w wr : World} {base : Nat} {v o : Value} {us : List Value} {rows : List (List Int)} {r : List Int} (h : Coll w wr base v us rows o r) : ∀ u ∈ us ++ [o], u.oneCell' = true := by
  intro u hu
  rw [List.mem_append] at hu
  rcases hu with hu | hu
  · obtain ⟨j, hj, rfl⟩ := List.mem_iff_getElem.1 hu
    obtain ⟨a, c, e⟩ := slice_of_own (h.own j hj)
    rw [show us.getD j undef = us[j] by simp [List.getD, hj]] at e
    rw [e]; rfl
  · simp at hu; subst hu
    obtain ⟨a, c, e⟩ := slice_of_own h.cur
    rw [e]; rfl
/-- Rows in a block, all of them from base on. -/
structure GridOwn (base : Nat) (W : World) (v : Value) (us : List Value) (rows : List (List Int)) : Prop where
  out : W.ownsRow base 22 1 v us.length us
  len : us.length = rows.length
  own : ∀ j, j < us.length → W.ownsRow base 3 1 (us.getD j undef) (rows.getD j []).length (irow (rows.getD j []))
  f2 : ∀ b, v.ownBlock = some b → ∀ j, j < us.length → (us.getD j undef).ownBlock ≠ some b
theorem GridOwn.grid {wr : World} {base : Nat} {v : Value} {us : List Value} {rows : List (List Int)} (h : GridOwn base wr v us rows) (hp : 0 < rows.length) (hr : ∀ j, j < rows.length → (rows.getD j []).length ≤ 9223372036854775807) : GridAt wr v rows := by
  rcases h.out.2 with ⟨_, h0⟩ | ⟨g, cap, cur, rfl, hb, hg, hcap, hcap2, hsz, htk⟩
  · have := h.len; omega
  · rw [h.len]
    refine .inr ⟨g, 0, cap, rfl, (Array.getElem?_eq_some_iff.1 hg).1, by rw [← h.len]; exact hcap, by unfold maxLen at hcap2; omega, fun j hj => ?_⟩
    have hj2 : j < us.length := by rw [h.len]; exact hj
    refine ⟨us.getD j undef, ?_, pts_of_own (h.own j hj2) (hr j hj)⟩
    rw [Nat.zero_add]
    have hc := cell_of_row wr g j cur 22 (0, 0) hg
    rw [hc]
    have h1 : us[j]? = some (us.getD j undef) := by simp [List.getD, hj2]
    rw [← h1, ← htk, List.getElem?_take_of_lt (by omega)]
    simp
theorem GridOwn.keep {S : Nat → Prop} {A B : World} {base : Nat} {v : Value} {us : List Value} {rows : List (List Int)} (h : GridOwn base A v us rows) (hO : Only S A B) (hS : ∀ k, base ≤ k → ¬ S k) : GridOwn base B v us rows :=
  ⟨hO.owns h.out (fun g hg => hS g (own_lt h.out hg).2), h.len, fun j hj => hO.owns (h.own j hj) (fun g hg => hS g (own_lt (h.own j hj) hg).2), h.f2⟩
theorem Coll.grid {w wr : World} {base : Nat} {v o : Value} {us : List Value} {rows : List (List Int)} {r : List Int} (h : Coll w wr base v us rows o r) : GridOwn base wr v us rows := ⟨h.out, h.len, h.own, h.f2⟩
/-- What Points leaves, with who owns it. -/
def RPtsPost (w : World) (l : List Mb) (e : Ending) (w' : World) : Prop :=
  Only (fun _ => False) w w' ∧ ((rightB l = true ∧ ∃ v us, e = .returned (.tuple #[v, .bool true]) ∧ GridOwn w.heap.size w' v us (pointsOf l)) ∨ (rightB l = false ∧ e = .returned (.tuple #[.slice none 0 0, .bool false])))

theorem rowsAt_len (l : List Mb) (j : Nat) : (rowsAt l j).length = (mbAt l j).wt.toNat := upI_len _ _
theorem pointsTo_snoc (l : List Mb) (k : Nat) : (List.range (k + 1)).map (rowsAt l) = (List.range k).map (rowsAt l) ++ [rowsAt l k] := by rw [List.range_succ, List.map_append]; rfl

set_option maxRecDepth 100000 in
set_option maxHeartbeats 2000000 in
theorem rpoints_some (b off cap : Nat) (l : List Mb) (w : World) (hw : MbsW l) (hb : b < w.heap.size) (hcap : l.length ≤ cap) (hcap2 : cap ≤ 9223372036854775807)
    (hc : ∀ j, j < l.length → w.cell? ⟨b, off + j * 3, none⟩ = some (.int .i64 (mbAt l j).id) ∧ w.cell? ⟨b, off + j * 3 + 1, none⟩ = some (.int .i64 (mbAt l j).wt) ∧ w.cell? ⟨b, off + j * 3 + 2, none⟩ = some (.int .i64 (mbAt l j).pb)) :
    Calls Tryz.prog 45 #[.slice (some ⟨b, off, none⟩) l.length cap] w (RPtsPost w l) := by
  obtain ⟨i0, hi0, hz0, hz1, hz2⟩ := info_parts Tryz.infoI
  obtain ⟨j0, hj0, hy0, hy1, hy2⟩ := info_parts Tryz.infoI2
  have HT := Lib.hid (rtotal_some b off cap l (totZ l) w hw hb hcap hcap2 rfl hc)
  have HC := Lib.hid hc
  clear hc hw
  cases hR : rightB l
  · have hz : totZ l = 0 := by unfold totZ; rw [hR]; rfl
    rw [hz] at HT
    have HR := Lib.hid hR
    clear hR hz
    go_enter Tryz.func45, Tryz.ntmps45
    go_wp2_with fail
    refine HT.out.mono ?_
    rintro e w1 ⟨rfl, hO⟩
    have HO := Lib.hid hO
    clear hO HT
    go_wp2
    go_ret2
    exact ⟨HO.out, .inr ⟨HR.out, rfl⟩⟩
  · obtain ⟨z0, z1⟩ := totZ_pos hR
    obtain ⟨hl1, hl2, hok, _⟩ := rightB_spec hR
    have HWT := Lib.hid (mbOk_wt l l.length hok)
    have HR := Lib.hid hR
    have hzb : (totZ l == 0) = false := beq_eq_false_iff_ne.2 (by omega)
    generalize totZ l = z at *
    clear hR hok
    go_enter Tryz.func45, Tryz.ntmps45
    go_wp2_with fail
    refine HT.out.mono ?_
    rintro e w1 ⟨rfl, hO⟩
    have HO := Lib.hid hO
    clear hO HT
    go_wp2_with fail
    go_loopw [4, 5, 6] (fun v vx vi wr => ∃ (k : Nat) (us : List Value), vi = .int .i64 k ∧ vx = .int .i64 (sumTo l k) ∧ k ≤ l.length ∧ us.length = k ∧ Coll w wr w.heap.size v us ((List.range k).map (rowsAt l)) (.slice none 0 0) []) (fun _ _ vi _ => l.length - (intOf vi).toNat)
    case atStart => exact ⟨0, [], rfl, rfl, Nat.zero_le _, rfl, World.ownsRow_nil _ _ _ _, rfl, fun j hj => by simp at hj, World.ownsRow_nil _ _ _ _, fun b hb => by simp [Value.ownBlock] at hb, fun b hb => by simp [Value.ownBlock] at hb, fun b hb => by simp [Value.ownBlock] at hb, HO.out, Nat.le_refl _⟩
    case round =>
      clear HO
      obtain ⟨k, us, rfl, rfl, hk, hul, hD⟩ := hrel
      have hsz := hD.only.size
      by_cases hlt : k < l.length
      · obtain ⟨e0, e1, e2⟩ := HC.out k hlt
        obtain ⟨hw1, hw2⟩ := HWT.out.1 k hlt
        obtain ⟨hs1, hs2⟩ := HWT.out.2 k (by omega)
        have HSU := Lib.hid (show sumTo l (k + 1) = sumTo l k + (mbAt l k).wt from rfl)
        have HPS := Lib.hid (pointsTo_snoc l k)
        have HRO := Lib.hid (show rowsAt l k = upI (sumTo l k) (mbAt l k).wt.toNat from rfl)
        have HD := Lib.hid hD
        have HUL := Lib.hid hul
        obtain ⟨av, cv, rfl⟩ := slice_of_own hD.out
        clear hD e0 e2 hul
        generalize mbAt l k = m at *
        obtain ⟨id, wt, pb⟩ := m
        dsimp only at e1 hw1 hw2
        generalize sumTo l k = s at *
        obtain ⟨wn, rfl⟩ : ∃ wn : Nat, wt = wn := ⟨wt.toNat, by omega⟩
        dsimp only [Int.toNat_natCast] at HRO
        generalize (List.range k).map (rowsAt l) = rows at *
        go_wp2_with fail
        go_loopw [5, 7, 8] (fun vx vo vt wi => ∃ (t : Nat), vt = .int .i64 t ∧ vx = .int .i64 (s + t) ∧ t ≤ wn ∧ Coll w wi w.heap.size (.slice av us.length cv) us rows vo (upI s t)) (fun _ _ vt _ => wn - (intOf vt).toNat)
        case atStart => exact ⟨0, rfl, by simp, Nat.zero_le _, HD.out⟩
        case round =>
          clear HD
          obtain ⟨t, rfl, rfl, ht, hD⟩ := hrel
          have hsz2 := hD.only.size
          have c1 := hD.only.cell e1 (fun h => h)
          have hbl : b < wr.heap.size := by omega
          by_cases htl : t < wn
          · have HD3 := Lib.hid (hD.frame ((Only.refl (fun _ => False) wr).alloc (.cells #[.int .i64 (s + t + 1)] 3)))
            have hown : (wr.alloc (.cells #[.int .i64 (s + t + 1)] 3)).ownsRow w.heap.size 3 1 u7 t (irow (upI s t)) := by
              have := HD3.out.cur
              rw [upI_len] at this; exact this
            obtain ⟨a6, c6, rfl⟩ := slice_of_own hown
            clear hD
            go_wp2_with (at_builtin; refine wpList_append_lies _ rfl _ _ 22 rfl w.heap.size 3 i0 _ 1 8 Tryz.underlying22 hi0 hz0 hz1 hz2 rfl (by decide) _ t (irow (upI s t)) rfl hown ⟨wr.heap.size, 0, none⟩ 1 1 [.int .i64 (s + t + 1)] rfl rfl (cell_one_new _ _ _) (one_int _) (by decide) ?c1 ?c2 ?c3 _ rfl ?_)
            case c1 => unfold maxLen; omega
            case c2 => omega
            case c3 => first | omega | (simp; omega)
            intro g1 cp1 w1 ho1 hg1 ha1 hgl1
            have HD4 := Lib.hid (HD3.out.grow (upI_len s t) ho1 hg1 (by rw [World.size_alloc]; exact ha1))
            clear ho1 hg1 ha1 hown HD3
            go_wp2
            go_roundw
            case rel => exact ⟨t + 1, by go_num, by congr 1; go_num, by omega, HD4.out⟩
            case measure => simp [intOf]; omega
          · obtain rfl : t = wn := by omega
            have HD3 := Lib.hid (hD.frame ((Only.refl (fun _ => False) wr).alloc (.cells #[u7] 22)))
            have hout := HD3.out.out
            have hsl := HD3.out.slices
            have hul2 : us.length ≤ 13 := by rw [HUL.out]; omega
            obtain ⟨ac, cc, hu7⟩ := slice_of_own hD.cur
            subst hu7
            clear hD
            go_wp2_with (at_builtin; refine wpList_append_lies _ rfl _ _ 26 rfl w.heap.size 22 j0 _ 1 24 Tryz.underlying26 hj0 hy0 hy1 hy2 rfl (by decide) _ us.length us rfl hout ⟨wr.heap.size, 0, none⟩ 1 1 [.slice ac (upI s t).length cc] rfl rfl (cell_one_new _ _ _) ?c0 (by decide) ?c1 ?c2 ?c3 _ rfl ?_)
            case c0 => exact fun u hu => hsl u (List.mem_append_right _ hu)
            case c1 => unfold maxLen; omega
            case c2 => omega
            case c3 => first | omega | (simp; omega)
            intro g1 cp1 w1 ho1 hg1 ha1 hgl1
            have HD4 := Lib.hid (HD3.out.shut rfl ho1 hg1 (by rw [World.size_alloc]; exact ha1))
            clear ho1 hg1 ha1 hout hsl HD3
            go_wp2
            go_roundw
            case rel => exact ⟨k + 1, us ++ [.slice ac (upI s t).length cc], by go_num, by rw [HSU.out], by omega, by rw [List.length_append, HUL.out]; rfl, by rw [HPS.out, HRO.out]; exact HD4.out⟩
            case measure => simp [intOf]; omega
      · obtain rfl : k = l.length := by omega
        have HG := Lib.hid (show GridOwn w.heap.size wr u4 us (pointsOf l) from hD.grid)
        have HOE := Lib.hid hD.only
        clear hD
        go_wp2
        go_ret2
        exact ⟨HOE.out, .inl ⟨HR.out, _, _, rfl, HG.out⟩⟩
theorem rpoints_nil (a : Option Addr) (c : Nat) (w : World) : Calls Tryz.prog 45 #[.slice a 0 c] w (RPtsPost w []) := by
  go_enter Tryz.func45, Tryz.ntmps45
  go_wp2_with fail
  refine (rtotal_nil a c w).mono ?_
  rintro e w1 ⟨rfl, hO⟩
  have HO := Lib.hid hO
  clear hO
  go_wp2
  go_ret2
  exact ⟨HO.out, .inr ⟨rfl, rfl⟩⟩
theorem rpoints_own (sv : Value) (l : List Mb) (w : World) (hw : MbsW l) (hs : MbsAt w sv l) : Calls Tryz.prog 45 #[sv] w (RPtsPost w l) := by
  rcases hs with ⟨a, c, rfl, rfl⟩ | ⟨b, off, cap, rfl, hb, h1, h2, hc⟩
  · exact rpoints_nil a c w
  · exact rpoints_some b off cap l w hw hb h1 h2 hc
theorem points_grid {base : Nat} {W : World} {v : Value} {us : List Value} {l : List Mb} (h : GridOwn base W v us (pointsOf l)) (hr : rightB l = true) : GridAt W v (pointsOf l) := by
  unfold rightB at hr
  simp only [Bool.and_eq_true, decide_eq_true_eq] at hr
  refine h.grid (by rw [pointsOf_len]; omega) (fun j hj => ?_)
  rw [pointsOf_len] at hj
  rw [pointsOf_at l j hj, rowsAt_len]
  have := ((mbOk_wt l l.length hr.2.1).1 j hj).2
  omega
theorem rpoints_any (sv : Value) (l : List Mb) (w : World) (hw : MbsW l) (hs : MbsAt w sv l) : Calls Tryz.prog 45 #[sv] w (PtsPost w l) :=
  (rpoints_own sv l w hw hs).mono fun _ _ ⟨hO, h⟩ => ⟨hO, h.imp (fun ⟨h1, v, _, h2, h3⟩ => ⟨h1, v, h2, points_grid h3 h1⟩) id⟩
end Go.Proofs.YtalclldccnichaaGreat
