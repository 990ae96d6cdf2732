/-
  The walk of the law NetWhole.
-/
import Derived.Test.YteblaedfjifdhaaTwo
import Derived.Laws.StructEq
namespace Go.Proofs.Yteblaedfjifdhaa
open Go.RowKit

structure Ms where
  fr : Int
  to : Int
  tx : ByteArray
def mel (l : List Ms) (k : Nat) : Ms := l.getD k ⟨0, 0, ByteArray.empty⟩
/-- A slice that reads as the messages l. -/
def MsgsAt (w : World) (lv : Value) (l : List Ms) : Prop :=
  (∃ a c, lv = .slice a 0 c ∧ l = []) ∨ ∃ gb off c, lv = .slice (some ⟨gb, off, none⟩) l.length c ∧ gb < w.heap.size ∧ 0 < l.length ∧ l.length ≤ c ∧ c ≤ maxLen ∧
    ∀ j, j < l.length → w.cell? ⟨gb, off + j * 3, none⟩ = some (.int .i64 (mel l j).fr) ∧ w.cell? ⟨gb, off + j * 3 + 1, none⟩ = some (.int .i64 (mel l j).to) ∧ w.cell? ⟨gb, off + j * 3 + 1 + 1, none⟩ = some (.string (mel l j).tx)
def MsgsWf (l : List Ms) : Prop := ∀ j, j < l.length → (Lit.int .i64 (mel l j).fr).wf = true ∧ (Lit.int .i64 (mel l j).to).wf = true

def whC (l : List Ms) (d : Int) (k : Nat) : Wt := ⟨(mel l k).fr, (mel l k).to, (mel l k).tx, 10 * k + d, k⟩
def whI (m : Int) (l : List Ms) (d : Int) (k : Nat) : List Wt := if nodeB m (mel l k).to then [whC l d k] else []
def whL (m : Int) (l : List Ms) (d : Int) : Nat → List Wt
  | 0 => []
  | k + 1 => whL m l d k ++ whI m l d k
def whT (m : Int) (l : List Ms) (d : Int) (k : Nat) : Nat → List Wt
  | 0 => []
  | n + 1 => whI m l d k ++ whT m l d (k + 1) n
theorem whT_last (m : Int) (l : List Ms) (d : Int) (k n : Nat) : whT m l d k (n + 1) = whT m l d k n ++ whI m l d (k + n) := by
  induction n generalizing k with
  | zero => simp [whT]
  | succ n ih =>
    rw [whT, ih (k + 1), whT, List.append_assoc]
    congr 3; omega
theorem whL_eq (m : Int) (l : List Ms) (d : Int) (n : Nat) : whL m l d n = whT m l d 0 n := by
  induction n with
  | zero => rfl
  | succ n ih => rw [whT_last, whL, ih, Nat.zero_add]
def whN (m : Int) (l : List Ms) (d : Int) (k : Nat) : NS := ⟨m, [⟨false, 0, d⟩], fun _ => 0, k, whL m l d k⟩
theorem ins_last {x : Wt} {l : List Wt} (h : ∀ y ∈ l, ltB x y = false) : ins x l = l ++ [x] := by
  induction l with
  | nil => rfl
  | cons y l ih =>
    unfold ins
    rw [if_neg (by rw [h y List.mem_cons_self]; simp), ih (fun z hz => h z (List.mem_cons_of_mem _ hz))]
    rfl
theorem mem_whL {m : Int} {l : List Ms} {d : Int} {n : Nat} {y : Wt} (h : y ∈ whL m l d n) : ∃ j, j < n ∧ y = whC l d j := by
  induction n with
  | zero => cases h
  | succ n ih =>
    rcases List.mem_append.1 h with h | h
    · obtain ⟨j, hj, e⟩ := ih h
      exact ⟨j, by omega, e⟩
    · unfold whI at h
      split at h
      · exact ⟨n, by omega, by simpa using h⟩
      · cases h
theorem whN_send (m : Int) (l : List Ms) (d : Int) (k : Nat) (hd : 0 ≤ d) : sendN (whN m l d k) (10 * k) (mel l k).fr (mel l k).to (mel l k).tx = whN m l d (k + 1) := by
  have e : max d 0 = d := by omega
  have e1 : (min (max (0 : Int) 1) 8).toNat = 1 := by decide
  have et : trOf [⟨false, 0, d⟩] k = ⟨false, min (max 0 1) 8, d⟩ := by simp [trOf, tel, e, Nat.mod_one]
  have hc : mkCopy (whN m l d k) (10 * k) (mel l k).fr (mel l k).to (mel l k).tx 0 = whC l d k := by
    simp [mkCopy, whN, et, whC]
  unfold sendN
  cases hn : nodeB m (mel l k).to
  · rw [if_pos (by simp [dropB, whN, hn])]
    simp [whN, whL, whI, hn]
  · rw [if_neg (by simp [dropB, whN, hn, et])]
    have : copiesOf (whN m l d k) (10 * k) (mel l k).fr (mel l k).to (mel l k).tx = [whC l d k] := by
      unfold copiesOf
      rw [show (trOf (whN m l d k).s (whN m l d k).sent).copies.toNat = 1 by simp only [whN, et]; exact e1]
      simp only [copiesTo, hc]
    rw [this]
    have hL : insAll [whC l d k] (whN m l d k).L = whL m l d k ++ [whC l d k] := by
      refine ins_last fun y hy => ?_
      obtain ⟨j, hj, rfl⟩ := mem_whL hy
      rw [ltB_false]; left; simp only [whC]; omega
    rw [hL]
    simp [whN, whL, whI, hn]
theorem whN_zero (m : Int) (l : List Ms) (d : Int) : whN m l d 0 = newNS m [⟨false, 0, d⟩] := rfl
theorem whN_good (m : Int) (l : List Ms) (d : Int) (hd : 0 ≤ d) (k : Nat) : Good (whN m l d k) := by
  induction k with
  | zero => exact good_new _ _
  | succ k ih => rw [← whN_send m l d k hd]; exact good_send ih _ _ _ _
theorem whN_may (m : Int) (l : List Ms) (d : Int) (k : Nat) (hd : d < 1000) (hk : k < 30) : MaySend (whN m l d k) (10 * k) (mel l k).fr (mel l k).to :=
  .inr ⟨by omega, by omega, by
    have : trOf (whN m l d k).s (whN m l d k).sent = ⟨false, min (max 0 1) 8, max d 0⟩ := by simp [trOf, tel, whN, Nat.mod_one]
    rw [this]; show max d 0 ≤ _; omega⟩
def whM (m : Int) (l : List Ms) (d : Int) (K k : Nat) : NS := ⟨m, [⟨false, 0, d⟩], fun _ => 0, K, whT m l d k (K - k)⟩
theorem whM_zero (m : Int) (l : List Ms) (d : Int) (K : Nat) : whM m l d K 0 = whN m l d K := by simp [whM, whN, whL_eq]
theorem whM_skip {m : Int} {l : List Ms} {d : Int} {K k : Nat} (hk : k < K) (h : nodeB m (mel l k).to = false) : whM m l d K k = whM m l d K (k + 1) := by
  obtain ⟨n, hn⟩ : ∃ n, K - k = n + 1 := ⟨K - k - 1, by omega⟩
  unfold whM
  rw [hn, whT, show K - (k + 1) = n by omega]
  simp [whI, h]
theorem whM_cons {m : Int} {l : List Ms} {d : Int} {K k : Nat} (hk : k < K) (h : nodeB m (mel l k).to = true) : (whM m l d K k).L = whC l d k :: whT m l d (k + 1) (K - (k + 1)) := by
  obtain ⟨n, hn⟩ : ∃ n, K - k = n + 1 := ⟨K - k - 1, by omega⟩
  unfold whM
  simp only
  rw [hn, whT, show K - (k + 1) = n by omega]
  simp [whI, h]
theorem whM_next {m : Int} {l : List Ms} {d : Int} {K k : Nat} (hk : k < K) (h : nodeB m (mel l k).to = true) : nextN (whM m l d K k) = whM m l d K (k + 1) := by
  unfold nextN
  rw [whM_cons hk h]; rfl

theorem whSrc (w : World) (d : Int) (T : TypeId) : SrcAt (w.alloc (.cells #[.bool false, .int .i64 0, .int .i64 d] T)) (.slice (some ⟨w.heap.size, 0, none⟩) 1 1) [⟨false, 0, d⟩] :=
  .inr ⟨⟨w.heap.size, 0, none⟩, 1, rfl, fun j u hu => World.news_of_block (heap_alloc_new w _) j u hu⟩

set_option maxHeartbeats 1000000 in
set_option maxRecDepth 100000 in
theorem whole_some (gb off c : Nat) (l : List Ms) (nd dl : Int) (w : World) (hn : 0 ≤ nd ∧ nd ≤ 255) (hdl : 0 ≤ dl ∧ dl ≤ 65535) (hgl : gb < w.heap.size) (hlp : 0 < l.length) (hlc : l.length ≤ c) (hcm : c ≤ 9223372036854775807)
    (hcs : ∀ j, j < l.length → w.cell? ⟨gb, off + j * 3, none⟩ = some (.int .i64 (mel l j).fr) ∧ w.cell? ⟨gb, off + j * 3 + 1, none⟩ = some (.int .i64 (mel l j).to) ∧ w.cell? ⟨gb, off + j * 3 + 1 + 1, none⟩ = some (.string (mel l j).tx)) (hwf : MsgsWf l) :
    Calls Try.prog 6 #[.slice (some ⟨gb, off, none⟩) l.length c, .int .u8 nd, .int .u16 dl] w fun e w' => e = .returned (.bool true) ∧ Below w.heap.size w w' := by
  obtain ⟨n1, n2⟩ := hn
  obtain ⟨d1, d2⟩ := hdl
  have HCS := Lib.hid hcs
  have HWF := Lib.hid hwf
  clear hcs hwf
  go_enter Try.func6, Try.ntmps6
  go_wp2_with fail
  refine (sanity_any _).mono ?_
  rintro e w1 ⟨rfl, hO1⟩
  have HO1 := Lib.hid hO1
  clear hO1
  go_wp2_with fail
  refine (new_any _ (nd % 5) _ [⟨false, 0, dl % 1000⟩] (whSrc w1 (dl % 1000) 44) (by show 1 ≤ 1000000; decide)).mono ?_
  rintro e w2 ⟨p, F, rfl, n1, n2, n3⟩
  have hOw : Own _ w2 F p (whN (nd % 5) l (dl % 1000) 0) [] := Own.of_new n1 (good_new _ _) n2 n3
  have HOW := Lib.hid (HO1.out.alloc (.cells #[.bool false, .int .i64 0, .int .i64 (dl % 1000)] 44))
  have HO := Lib.hid hOw
  clear n1 n2 n3 HO1 hOw
  generalize w1.alloc (.cells #[.bool false, .int .i64 0, .int .i64 (dl % 1000)] 44) = w0 at *
  by_cases hK : l.length ≤ 30
  · skip
    go_wp2_with fail
    go_loopw [10] (fun v wr => ∃ (k : Nat) (F : Nat → Prop), v = .int .i64 k ∧ k ≤ l.length ∧ Own w0 wr F p (whN (nd % 5) l (dl % 1000) k) []) (fun v _ => l.length - (intOf v).toNat)
    case atStart => exact ⟨0, F, rfl, Nat.zero_le _, HO.out⟩
    case round =>
      clear HO F
      obtain ⟨k, F, rfl, hk, hO⟩ := hrel
      by_cases hlt : k < l.length
      · have hkl : k < l.length := by omega
        have hOo := HOW.out.trans hO.only
        obtain ⟨e0, e1, e2⟩ := HCS.out k hkl
        have x0 := hOo.cell e0 (fun h => h)
        have x1 := hOo.cell e1 (fun h => h)
        have x2 := hOo.cell e2 (fun h => h)
        obtain ⟨wf1, wf2⟩ := HWF.out k hkl
        clear e0 e1 e2 hOo
        go_wp2_with fail
        refine (send_any F p _ (10 * k) _ _ _ _ hO.net hO.good (by show k < 100000; omega) (whN_may _ _ _ _ (by omega) (by omega)) wf1 wf2).mono ?_
        rintro e w4 ⟨rfl, hNL⟩
        rw [whN_send _ _ _ _ (by omega)] at hNL
        obtain ⟨F', hO'⟩ := hO.step hNL (whN_good _ _ _ (by omega) _)
        clear x0 x1 x2 hNL
        go_wp2
        go_roundw
        case rel => exact ⟨k + 1, F', by go_num, by omega, hO'⟩
        case measure => simp [intOf]; omega
      · have hke : k = l.length := by omega
        have HO := Lib.hid (show Own w0 wr F p (whM (nd % 5) l (dl % 1000) l.length 0) [] by rw [whM_zero]; rw [hke] at hO; exact hO)
        clear hke hO
        go_wp2_with fail
        go_loopw [11] (fun v wr => ∃ (k : Nat) (F : Nat → Prop), v = .int .i64 k ∧ k ≤ l.length ∧ Own w0 wr F p (whM (nd % 5) l (dl % 1000) l.length k) []) (fun v _ => l.length - (intOf v).toNat)
        case atStart => exact ⟨0, F, rfl, Nat.zero_le _, HO.out⟩
        case round =>
          clear HO F
          obtain ⟨k, F, rfl, hk, hO⟩ := hrel
          by_cases hlt : k < l.length
          · have hkl : k < l.length := by omega
            have hOo := HOW.out.trans hO.only
            obtain ⟨e0, e1, e2⟩ := HCS.out k hkl
            have x0 := hOo.cell e0 (fun h => h)
            have x1 := hOo.cell e1 (fun h => h)
            have x2 := hOo.cell e2 (fun h => h)
            have hglr : gb < wr.heap.size := Nat.lt_of_lt_of_le hgl hOo.size
            clear e0 e1 e2 hOo
            cases hn : nodeB (nd % 5) (mel l k).to
            · have HO' := Lib.hid (show Own w0 wr F p (whM (nd % 5) l (dl % 1000) l.length (k + 1)) [] by rw [← whM_skip hlt hn]; exact hO)
              clear hO
              by_cases ht : (mel l k).to < 0
              · go_wp2
                go_roundw
                case rel => exact ⟨k + 1, F, by go_num, by omega, HO'.out⟩
                case measure => simp [intOf]; omega
              · have ht2 : nd % 5 ≤ (mel l k).to := by
                  unfold nodeB at hn
                  simp only [Bool.and_eq_false_iff, decide_eq_false_iff_not] at hn
                  omega
                go_wp2
                go_roundw
                case rel => exact ⟨k + 1, F, by go_num, by omega, HO'.out⟩
                case measure => simp [intOf]; omega
            · have ht : 0 ≤ (mel l k).to ∧ (mel l k).to < nd % 5 := by
                unfold nodeB at hn
                simp only [Bool.and_eq_true, decide_eq_true_eq] at hn
                exact hn
              obtain ⟨ht1, ht2⟩ := ht
              have HL := Lib.hid (whM_cons (d := dl % 1000) hlt hn)
              have HX := Lib.hid (whM_next (d := dl % 1000) hlt hn)
              go_wp2_with fail
              refine (next_cons F p _ _ hO.net hO.good _ _ HL.out).mono ?_
              rintro e w4 ⟨rfl, hNL⟩
              rw [HX.out] at hNL
              obtain ⟨F', hO'⟩ := hO.step hNL (by rw [← HX.out]; exact good_next hO.good)
              clear hNL x0 x1 x2
              have hOo := HOW.out.trans hO'.only
              obtain ⟨e0, e1, e2⟩ := HCS.out k hkl
              have x0 := hOo.cell e0 (fun h => h)
              have x1 := hOo.cell e1 (fun h => h)
              have x2 := hOo.cell e2 (fun h => h)
              have hglr : gb < w4.heap.size := Nat.lt_of_lt_of_le hgl hOo.size
              clear e0 e1 e2 hOo
              unfold whC
              go_wp2_with fail
              go_quiet (fail)
              go_wp2
              go_roundw
              case rel => exact ⟨k + 1, F', by go_num, by omega, hO'.quiet (((Only.refl _ w4).alloc _).drewN _)⟩
              case measure => simp [intOf]; omega
          · have hL : ((whM (nd % 5) l (dl % 1000) l.length k).L.length : Int) = 0 := by
              have : l.length - k = 0 := by omega
              simp [whM, this, whT]
            have HL := Lib.hid hL
            clear hL
            go_wp2_with fail
            refine (waiting_is F p _ _ 0 hO.net HL.out).mono ?_
            rintro e w' ⟨rfl, rfl⟩
            go_wp2
            go_ret
            exact ⟨rfl, (HOW.out.trans hO.only).below (Nat.le_refl _) (fun _ _ h => h)⟩
  · have hK' : 30 < l.length := by omega
    go_wp2_with fail
    go_loopw [10] (fun v wr => ∃ (k : Nat) (F : Nat → Prop), v = .int .i64 k ∧ k ≤ 30 ∧ Own w0 wr F p (whN (nd % 5) l (dl % 1000) k) []) (fun v _ => 30 - (intOf v).toNat)
    case atStart => exact ⟨0, F, rfl, Nat.zero_le _, HO.out⟩
    case round =>
      clear HO F
      obtain ⟨k, F, rfl, hk, hO⟩ := hrel
      by_cases hlt : k < 30
      · have hkl : k < l.length := by omega
        have hOo := HOW.out.trans hO.only
        obtain ⟨e0, e1, e2⟩ := HCS.out k hkl
        have x0 := hOo.cell e0 (fun h => h)
        have x1 := hOo.cell e1 (fun h => h)
        have x2 := hOo.cell e2 (fun h => h)
        obtain ⟨wf1, wf2⟩ := HWF.out k hkl
        clear e0 e1 e2 hOo
        go_wp2_with fail
        refine (send_any F p _ (10 * k) _ _ _ _ hO.net hO.good (by show k < 100000; omega) (whN_may _ _ _ _ (by omega) (by omega)) wf1 wf2).mono ?_
        rintro e w4 ⟨rfl, hNL⟩
        rw [whN_send _ _ _ _ (by omega)] at hNL
        obtain ⟨F', hO'⟩ := hO.step hNL (whN_good _ _ _ (by omega) _)
        clear x0 x1 x2 hNL
        go_wp2
        go_roundw
        case rel => exact ⟨k + 1, F', by go_num, by omega, hO'⟩
        case measure => simp [intOf]; omega
      · have hke : k = 30 := by omega
        have HO := Lib.hid (show Own w0 wr F p (whM (nd % 5) l (dl % 1000) 30 0) [] by rw [whM_zero]; rw [hke] at hO; exact hO)
        clear hke hO
        go_wp2_with fail
        go_loopw [11] (fun v wr => ∃ (k : Nat) (F : Nat → Prop), v = .int .i64 k ∧ k ≤ 30 ∧ Own w0 wr F p (whM (nd % 5) l (dl % 1000) 30 k) []) (fun v _ => 30 - (intOf v).toNat)
        case atStart => exact ⟨0, F, rfl, Nat.zero_le _, HO.out⟩
        case round =>
          clear HO F
          obtain ⟨k, F, rfl, hk, hO⟩ := hrel
          by_cases hlt : k < 30
          · have hkl : k < l.length := by omega
            have hOo := HOW.out.trans hO.only
            obtain ⟨e0, e1, e2⟩ := HCS.out k hkl
            have x0 := hOo.cell e0 (fun h => h)
            have x1 := hOo.cell e1 (fun h => h)
            have x2 := hOo.cell e2 (fun h => h)
            have hglr : gb < wr.heap.size := Nat.lt_of_lt_of_le hgl hOo.size
            clear e0 e1 e2 hOo
            cases hn : nodeB (nd % 5) (mel l k).to
            · have HO' := Lib.hid (show Own w0 wr F p (whM (nd % 5) l (dl % 1000) 30 (k + 1)) [] by rw [← whM_skip hlt hn]; exact hO)
              clear hO
              by_cases ht : (mel l k).to < 0
              · go_wp2
                go_roundw
                case rel => exact ⟨k + 1, F, by go_num, by omega, HO'.out⟩
                case measure => simp [intOf]; omega
              · have ht2 : nd % 5 ≤ (mel l k).to := by
                  unfold nodeB at hn
                  simp only [Bool.and_eq_false_iff, decide_eq_false_iff_not] at hn
                  omega
                go_wp2
                go_roundw
                case rel => exact ⟨k + 1, F, by go_num, by omega, HO'.out⟩
                case measure => simp [intOf]; omega
            · have ht : 0 ≤ (mel l k).to ∧ (mel l k).to < nd % 5 := by
                unfold nodeB at hn
                simp only [Bool.and_eq_true, decide_eq_true_eq] at hn
                exact hn
              obtain ⟨ht1, ht2⟩ := ht
              have HL := Lib.hid (whM_cons (d := dl % 1000) hlt hn)
              have HX := Lib.hid (whM_next (d := dl % 1000) hlt hn)
              go_wp2_with fail
              refine (next_cons F p _ _ hO.net hO.good _ _ HL.out).mono ?_
              rintro e w4 ⟨rfl, hNL⟩
              rw [HX.out] at hNL
              obtain ⟨F', hO'⟩ := hO.step hNL (by rw [← HX.out]; exact good_next hO.good)
              clear hNL x0 x1 x2
              have hOo := HOW.out.trans hO'.only
              obtain ⟨e0, e1, e2⟩ := HCS.out k hkl
              have x0 := hOo.cell e0 (fun h => h)
              have x1 := hOo.cell e1 (fun h => h)
              have x2 := hOo.cell e2 (fun h => h)
              have hglr : gb < w4.heap.size := Nat.lt_of_lt_of_le hgl hOo.size
              clear e0 e1 e2 hOo
              unfold whC
              go_wp2_with fail
              go_quiet (fail)
              go_wp2
              go_roundw
              case rel => exact ⟨k + 1, F', by go_num, by omega, hO'.quiet (((Only.refl _ w4).alloc _).drewN _)⟩
              case measure => simp [intOf]; omega
          · have hL : ((whM (nd % 5) l (dl % 1000) 30 k).L.length : Int) = 0 := by
              have : 30 - k = 0 := by omega
              simp [whM, this, whT]
            have HL := Lib.hid hL
            clear hL
            go_wp2_with fail
            refine (waiting_is F p _ _ 0 hO.net HL.out).mono ?_
            rintro e w' ⟨rfl, rfl⟩
            go_wp2
            go_ret
            exact ⟨rfl, (HOW.out.trans hO.only).below (Nat.le_refl _) (fun _ _ h => h)⟩

set_option maxHeartbeats 1000000 in
set_option maxRecDepth 100000 in
theorem whole_nil (a : Option Addr) (c : Nat) (nd dl : Int) (w : World) (hn : 0 ≤ nd ∧ nd ≤ 255) (hdl : 0 ≤ dl ∧ dl ≤ 65535) :
    Calls Try.prog 6 #[.slice a 0 c, .int .u8 nd, .int .u16 dl] w fun e w' => e = .returned (.bool true) ∧ Below w.heap.size w w' := by
  obtain ⟨n1, n2⟩ := hn
  obtain ⟨d1, d2⟩ := hdl
  go_enter Try.func6, Try.ntmps6
  go_wp2_with fail
  refine (sanity_any _).mono ?_
  rintro e w1 ⟨rfl, hO1⟩
  have HO1 := Lib.hid hO1
  clear hO1
  go_wp2_with fail
  refine (new_any _ (nd % 5) _ [⟨false, 0, dl % 1000⟩] (whSrc w1 (dl % 1000) 44) (by show 1 ≤ 1000000; decide)).mono ?_
  rintro e w2 ⟨p, F, rfl, n1, n2, n3⟩
  cases a
  all_goals
    go_wp2_with fail
    refine wp_loop_rounds 1 ?_
    rw [rounds_succ]
    go_wp2_with fail
    refine wp_loop_rounds 1 ?_
    rw [rounds_succ]
    go_wp2_with fail
    refine (waiting_is F p _ _ 0 n1 rfl).mono ?_
    rintro e w' ⟨rfl, rfl⟩
    go_wp2
    go_ret
    exact ⟨rfl, ((HO1.out.alloc _).trans n3).below (Nat.le_refl _) (fun _ _ h => h)⟩

theorem whole_walk (lv : Value) (l : List Ms) (nd dl : Int) (w : World) (h : MsgsAt w lv l) (hwf : MsgsWf l) (hn : 0 ≤ nd ∧ nd ≤ 255) (hdl : 0 ≤ dl ∧ dl ≤ 65535) :
    Calls Try.prog 6 #[lv, .int .u8 nd, .int .u16 dl] w fun e w' => e = .returned (.bool true) ∧ Below w.heap.size w w' := by
  rcases h with ⟨a, c, rfl, rfl⟩ | ⟨gb, off, c, rfl, h1, h2, h3, h4, h5⟩
  · exact whole_nil a c nd dl w hn hdl
  · unfold maxLen at h4
    exact whole_some gb off c l nd dl w hn hdl h1 h2 h3 (by omega) h5 hwf

/-- []api.Message. -/
theorem open_msgs {w : World} {lv : Value} (h : Rd w 47 [lv]) : ∃ l, MsgsAt w lv l ∧ MsgsWf l := by
  rcases h.slice Try.underlying47 (by rw [Try.cells31]; decide) with ⟨a, c, hs⟩ | ⟨b, off, len, cap, hs, h0, hl, hm, hb, hi⟩
  · exact ⟨[], .inl ⟨a, c, by simpa using hs, rfl⟩, fun j hj => by simp at hj⟩
  · rw [Try.cells31] at hi
    obtain ⟨l, hll, hP⟩ := pick_list (⟨0, 0, ByteArray.empty⟩ : Ms) (P := fun j t => (w.cell? ⟨b, off + j * 3, none⟩ = some (.int .i64 t.fr) ∧ w.cell? ⟨b, off + j * 3 + 1, none⟩ = some (.int .i64 t.to) ∧ w.cell? ⟨b, off + j * 3 + 1 + 1, none⟩ = some (.string t.tx)) ∧
      (Lit.int .i64 t.fr).wf = true ∧ (Lit.int .i64 t.to).wf = true) len (fun j hj => by
        obtain ⟨cs', _, hat, hr⟩ := hi j hj
        obtain ⟨fr, to, tx, rfl, hd⟩ := open_msg hr
        exact ⟨⟨fr, to, tx⟩, ⟨hat 0 (by omega), hat 1 (by omega), hat 2 (by omega)⟩, hd⟩)
    refine ⟨l, .inr ⟨b, off, cap, ?_, hb, by omega, by omega, hm, fun j hj => (hP j (by omega)).1⟩, fun j hj => (hP j (by omega)).2⟩
    rw [hll]; simpa using hs
end Go.Proofs.Yteblaedfjifdhaa
