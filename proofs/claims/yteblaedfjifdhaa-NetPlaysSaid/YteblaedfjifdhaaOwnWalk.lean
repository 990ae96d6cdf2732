/-
  The walk of the law NetOwn.
-/
import Derived.Test.YteblaedfjifdhaaDrains
namespace Go.Proofs.Yteblaedfjifdhaa
open Go.RowKit

theorem Own.base {w0 w1 w : World} {F : Nat → Prop} {b : Nat} {N : NS} {A : List (Nat × Obj)} (h : Own w1 w F b N A) (hO : Only (fun _ => False) w0 w1) : Own w0 w F b N A :=
  ⟨h.net, h.good, fun k hk => by have := h.new k hk; have := hO.size; omega, hO.trans h.only, h.apart⟩
section
variable {w0 w : World} {F G : Nat → Prop} {b c : Nat} {N M : NS} {A : List (Nat × Obj)}
theorem Two.more (h : Two w0 w F b N G c M A) (o : Obj) : Two w0 (w.alloc o) F b N G c M ((w.heap.size, o) :: A) := ⟨h.one.more o, h.two.more o, h.dis⟩
theorem Own.forget (h : Own w0 w F b N A) : Own w0 w F b N [] := ⟨h.net, h.good, h.new, h.only, fun _ _ h => by cases h⟩
theorem Two.forget (h : Two w0 w F b N G c M A) : Two w0 w F b N G c M [] := ⟨h.one.forget, h.two.forget, h.dis⟩
end
/-- A write beside both nets. -/
theorem Two.aside {w0 w w' : World} {F G : Nat → Prop} {b c : Nat} {N M : NS} (h : Two w0 w F b N G c M []) {g : Nat} (hF : ¬ F g) (hG : ¬ G g) (hg : w0.heap.size ≤ g) (hO : Only (fun k => k = g) w w') : Two w0 w' F b N G c M [] :=
  ⟨h.one.other (F := fun k => k = g) (fun k e => by rw [e]; exact hg) hO (fun k e => by rw [e]; exact hF) (fun _ _ h => by cases h),
    h.two.other (F := fun k => k = g) (fun k e => by rw [e]; exact hg) hO (fun k e => by rw [e]; exact hG) (fun _ _ h => by cases h), h.dis⟩

theorem trow_set (q : List Tr) (i : Nat) (x : Tr) (hi : i < q.length) :
    (((trow q).set (i * 3) (.bool x.lost)).set (i * 3 + 1) (.int .i64 x.copies)).set (i * 3 + 2) (.int .i64 x.delay) = trow (q.set i x) := by
  induction q generalizing i with
  | nil => simp at hi
  | cons y q ih =>
    cases i with
    | zero => simp [trow, Tr.cells]
    | succ i =>
      have hl : y.cells.length = 3 := rfl
      have e : ∀ (l : List Value) k u, (y.cells ++ l).set ((i + 1) * 3 + k) u = y.cells ++ l.set (i * 3 + k) u := by
        intro l k u
        rw [List.set_append_right _ _ (by rw [hl]; omega), hl, show (i + 1) * 3 + k - 3 = i * 3 + k by omega]
      have e0 := fun l u => e l 0 u
      simp only [Nat.add_zero] at e0
      simp only [trow, List.set_cons_succ, e0, e]
      rw [ih i (by simpa using hi)]

/-- Message k of the law: from k, to node 0, at the time k. -/
def owN (s : List Tr) : Nat → NS
  | 0 => newNS 1 s
  | k + 1 => sendN (owN s k) k k 0 ByteArray.empty
theorem owN_fix (s : List Tr) (k : Nat) : (owN s k).s = s ∧ (owN s k).sent = k := by
  induction k with
  | zero => exact ⟨rfl, rfl⟩
  | succ k ih =>
    obtain ⟨a, b, c, d⟩ := sendN_fix (owN s k) k k 0 ByteArray.empty
    exact ⟨b.trans ih.1, d.trans (by rw [ih.2])⟩
theorem owN_may (l : List Tr) (k : Nat) (hk : k < 30) : MaySend (owN (scriptOf l) k) k k 0 := by
  obtain ⟨b, d⟩ := owN_fix (scriptOf l) k
  have h2 := trOf_delay (l := l) k
  refine .inr ⟨by omega, by omega, ?_⟩
  rw [b, d]; omega

theorem own_nil {w : World} {base n c : Nat} {a : Option Addr} {s : List Tr} (h : w.ownsRow base 44 3 (.slice a n c) s.length (trow s)) (ha : a = none) : c = 0 ∧ s = [] := by
  subst ha
  rcases h.2 with ⟨h', h0⟩ | ⟨g, cap, cur, h', _⟩
  · simp only [Value.slice.injEq] at h'
    exact ⟨h'.2.2, List.eq_nil_of_length_eq_zero h0⟩
  · simp at h'

/-- The law's own slice while it is written over. -/
structure Over (w1 w : World) (F G : Nat → Prop) (p q g n c : Nat) (N : NS) : Prop where
  two : Two w1 w F p N G q N []
  nF : ¬ F g
  nG : ¬ G g
  row : ∃ s', w.ownsRow w1.heap.size 44 3 (.slice (some ⟨g, 0, none⟩) n c) n (trow s') ∧ s'.length = n
theorem Over.store {w1 w : World} {F G : Nat → Prop} {p q g n c : Nat} {N : NS} (h : Over w1 w F G p q g n c N) (k : Nat) (x : Tr) (hk : k < n) (hg : w1.heap.size ≤ g) :
    Over w1 (((w.setCell ⟨g, k * 3, none⟩ (.bool x.lost)).setCell ⟨g, k * 3 + 1, none⟩ (.int .i64 x.copies)).setCell ⟨g, k * 3 + 2, none⟩ (.int .i64 x.delay)) F G p q g n c N := by
  obtain ⟨s', hr, hl⟩ := h.row
  refine ⟨h.two.aside h.nF h.nG hg ((((Only.refl (fun k => k = g) w).setCell (.inl rfl) _).setCell (.inl rfl) _).setCell (.inl rfl) _), h.nF, h.nG, s'.set k x, ?_, by simp [hl]⟩
  have h1 := (hr.stored (k * 3) (.bool x.lost)).1
  have h2 := (h1.stored (k * 3 + 1) (.int .i64 x.copies)).1
  have h3 := (h2.stored (k * 3 + 2) (.int .i64 x.delay)).1
  rw [trow_set s' k x (by omega)] at h3
  exact h3

set_option maxHeartbeats 2000000 in
set_option maxRecDepth 100000 in
theorem own_walk (lv : Value) (l : List Tr) (mn : Int) (w : World) (h : TrsAt w lv l) (hwf : TrsWf l) (hmn : 0 ≤ mn ∧ mn ≤ 255) :
    Calls Try.prog 8 #[lv, .int .u8 mn] w fun e w' => e = .returned (.bool true) ∧ Below w.heap.size w w' := by
  obtain ⟨i0, hi, hz0, hz1, hz2⟩ := info_parts Try.info44
  obtain ⟨m1, m2⟩ := hmn
  have HT := Lib.hid h
  have HF := Lib.hid hwf
  clear h hwf
  go_enter Try.func8, Try.ntmps8
  go_wp2_with fail
  refine (sanity_any _).mono ?_
  rintro e w1 ⟨rfl, hO1⟩
  have HO1 := Lib.hid hO1
  clear hO1
  go_wp2_with fail
  refine (script_any _ lv l (HT.out.frame HO1.out) HF.out).mono ?_
  rintro e w2 ⟨a, c, rfl, hrow, hO2⟩
  have hsl := scriptOf_length l
  have HR := Lib.hid hrow
  have HO2 := Lib.hid hO2
  clear hO2 HT HF hrow
  go_wp2_with fail
  refine (new_any _ 1 _ (scriptOf l) (SrcAt.of_own HR.out) (Nat.le_trans hsl (by decide))).mono ?_
  rintro e w3 ⟨p, F, rfl, n1, n2, n3⟩
  have hO := (Own.of_new n1 (good_new _ _) n2 n3).base HO2.out
  have HN2 := Lib.hid n2
  have HN3 := Lib.hid n3
  have HSM := Lib.hid (fun k => owN_may l k)
  have HO := Lib.hid hO
  clear n1 n2 n3 hO
  generalize scriptOf l = s at *
  rcases own_parts HR.out with ⟨rfl, hs0⟩ | ⟨g, cur, rfl, hgw, hg, hsc, hcm, hcur⟩
  · obtain ⟨rfl, rfl⟩ := own_nil HR.out rfl
    clear hs0
    go_wp2_with fail
    refine (new_any _ 1 _ [] (.inr ⟨⟨w3.heap.size, 0, none⟩, 0, rfl, fun j u hu => by simp [trow] at hu⟩) (by decide)).mono ?_
    rintro e w4 ⟨q, G, rfl, n1, n2, n3⟩
    have HT2 := Lib.hid (show Two w1 w4 F p (owN [] 0) G q (owN [] 0) [] from (HO.out.quiet ((Only.refl _ w3).alloc _)).two n1 (good_new _ _) n2 n3)
    clear n1 n2 n3
    go_wp2_with fail
    refine wp_loop_rounds 1 ?_
    rw [rounds_succ]
    go_wp2_with fail
    go_loopw [10] (fun v wr => ∃ (k : Nat) (F G : Nat → Prop), v = .int .i64 k ∧ (k : Int) ≤ mn % 30 ∧ Two w1 wr F p (owN [] k) G q (owN [] k) []) (fun v _ => (mn % 30 - intOf v).toNat)
    case atStart => exact ⟨0, F, G, rfl, by omega, HT2.out⟩
    case round =>
      clear HT2
      obtain ⟨k, F, G, rfl, hk, hT⟩ := hrel
      by_cases hlt : (k : Int) < mn % 30
      · have hm := HSM.out k (by omega)
        have HFX := Lib.hid (owN_fix [] k).2
        have HD := Lib.hid (show owN [] (k + 1) = sendN (owN [] k) k k 0 ByteArray.empty from rfl)
        go_wp2_with fail
        refine (send_any F p _ k k 0 ByteArray.empty _ hT.one.net hT.one.good (by rw [HFX.out]; omega) hm (WalkArith.wf_i64 (by omega)) (by decide)).mono ?_
        rintro e w6 ⟨rfl, hNL⟩
        rw [← HD.out] at hNL
        obtain ⟨F', hT'⟩ := hT.left hNL (by rw [HD.out]; exact good_send hT.one.good _ _ _ _)
        clear hNL hT
        go_wp2_with fail
        refine (send_any G q _ k k 0 ByteArray.empty _ hT'.two.net hT'.two.good (by rw [HFX.out]; omega) hm (WalkArith.wf_i64 (by omega)) (by decide)).mono ?_
        rintro e w7 ⟨rfl, hNL⟩
        rw [← HD.out] at hNL
        obtain ⟨G', hT2⟩ := hT'.right hNL hT'.one.good
        clear hNL hT'
        go_wp2
        go_roundw
        case rel => exact ⟨k + 1, F', G', by go_num, by omega, hT2⟩
        case measure => simp [intOf]; omega
      · have HT3 := Lib.hid hT
        generalize owN [] k = N at HT3
        clear hT
        go_wp2_with fail
        go_loopw [11] (fun v wr => ∃ (k : Nat) (F G : Nat → Prop) (N : NS), v = .int .i64 k ∧ k ≤ 300 ∧ Two w1 wr F p N G q N []) (fun v _ => 300 - (intOf v).toNat)
        case atStart => exact ⟨0, F, G, N, rfl, by omega, HT3.out⟩
        case round =>
          clear HT3
          obtain ⟨k, F, G, N, rfl, hk, hT⟩ := hrel
          by_cases hlt : k < 300
          · cases hL : N.L with
            | nil =>
              have HL := Lib.hid hL
              clear hL
              go_wp2_with fail
              refine (next_nil F p _ _ hT.one.net HL.out).mono ?_
              rintro e w6 ⟨rfl, hNL⟩
              obtain ⟨F', hT'⟩ := hT.left hNL hT.one.good
              have HT' := Lib.hid (hT'.more (.cells #[.int .i64 0, .int .i64 0, .string ByteArray.empty] 31))
              clear hNL hT hT'
              go_wp2_with fail
              refine (next_nil G q _ _ HT'.out.two.net HL.out).mono ?_
              rintro e w7 ⟨rfl, hNL⟩
              obtain ⟨G', hT2⟩ := HT'.out.right hNL HT'.out.two.good
              have hb := (hT2.one.apart w6.heap.size _ List.mem_cons_self).2
              have x0 := cell_of_row w7 w6.heap.size 0 _ 31 (0, 0) hb
              have x1 := cell_of_row w7 w6.heap.size 1 _ 31 (0, 0) hb
              have x2 := cell_of_row w7 w6.heap.size 2 _ 31 (0, 0) hb
              simp at x0 x1 x2
              have hsz := (Array.getElem?_eq_some_iff.1 hb).1
              have HT2 := Lib.hid hT2.forget
              clear hNL HT' hT2 hb
              go_wp2
              go_roundw
              case rel => exact ⟨k + 1, F', G', _, by go_num, by omega, HT2.out.quiet ((Only.refl _ w7).alloc _)⟩
              case measure => simp [intOf]; omega
            | cons y M =>
              have HL := Lib.hid hL
              clear hL
              go_wp2_with fail
              refine (next_cons F p _ _ hT.one.net hT.one.good _ _ HL.out).mono ?_
              rintro e w6 ⟨rfl, hNL⟩
              obtain ⟨F', hT'⟩ := hT.left hNL (good_next hT.one.good)
              have HT' := Lib.hid (hT'.more (.cells #[.int .i64 y.fr, .int .i64 y.to, .string y.tx] 31))
              clear hNL hT hT'
              go_wp2_with fail
              refine (next_cons G q _ _ HT'.out.two.net HT'.out.two.good _ _ HL.out).mono ?_
              rintro e w7 ⟨rfl, hNL⟩
              obtain ⟨G', hT2⟩ := HT'.out.right hNL (good_next HT'.out.two.good)
              have hb := (hT2.one.apart w6.heap.size _ List.mem_cons_self).2
              have x0 := cell_of_row w7 w6.heap.size 0 _ 31 (0, 0) hb
              have x1 := cell_of_row w7 w6.heap.size 1 _ 31 (0, 0) hb
              have x2 := cell_of_row w7 w6.heap.size 2 _ 31 (0, 0) hb
              simp at x0 x1 x2
              have hsz := (Array.getElem?_eq_some_iff.1 hb).1
              have HT2 := Lib.hid hT2.forget
              clear hNL HT' hT2 hb
              go_wp2
              go_roundw
              case rel => exact ⟨k + 1, F', G', _, by go_num, by omega, HT2.out.quiet ((Only.refl _ w7).alloc _)⟩
              case measure => simp [intOf]; omega
          · go_wp2
            go_ret
            exact ⟨rfl, (HO1.out.trans hT.one.only).below (Nat.le_refl _) (fun _ _ h => h)⟩
  · unfold maxLen at hcm
    have hgl := (Array.getElem?_eq_some_iff.1 hg).1
    have HR3 := Lib.hid (HN3.out.owns HR.out (fun _ _ h => h))
    clear hg hcur
    go_wp2_with (at_builtin; refine wpList_append_own _ rfl _ _ 22 rfl w1.heap.size 44 i0 _ 3 24 Try.underlying22 hi hz0 hz1 hz2 rfl (by decide) _ 0 [] rfl (World.ownsRow_lit w3 #[] 0 ?c0 (Nat.zero_le _) rfl) ⟨g, 0, none⟩ s.length c (trow s) rfl (trow_length s) ?c2 (trow_one' s) ?c3 ?c4 ?c5 ?_)
    case c0 => have h1 := HO2.out.size; have h2 := HN3.out.size; omega
    case c2 => exact fun j u hu => (HR3.out.alloc _).cells rfl j u hu
    case c3 => exact Nat.le_trans (by omega) (show (1000000 : Nat) ≤ maxLen by decide)
    case c4 => omega
    case c5 => have h1 := HO2.out.size; have h2 := HN3.out.size; simp; omega
    intro v' w4 hown4 hgrow4 _
    obtain ⟨a5, c5, hv5⟩ := slice_of_own hown4
    rw [hv5] at hown4 ⊢
    have hO4 : Only (fun _ => False) w3 w4 := ((Only.refl _ w3).alloc _).grown hgrow4 (fun i e hi => by simp [Value.ownBlock] at e; omega)
    have HO4 := Lib.hid (HO.out.quiet hO4)
    have HR4 := Lib.hid (hO4.owns HR3.out (fun _ _ h => h))
    have HS4 := Lib.hid (SrcAt.of_own hown4)
    have hsz4 : w3.heap.size ≤ w4.heap.size := hO4.size
    clear hown4 hgrow4 hv5 hO4 HO HR3
    go_wp2_with fail
    refine (new_any _ 1 _ s HS4.out (Nat.le_trans hsl (by decide))).mono ?_
    rintro e w5 ⟨q, G, rfl, n1, n2, n3⟩
    have hw2 : w2.heap.size ≤ w4.heap.size := Nat.le_trans HN3.out.size hsz4
    have HV := Lib.hid (show Over w1 w5 F G p q g s.length c (owN s 0) from ⟨HO4.out.two n1 (good_new _ _) n2 n3, fun hf => by have := HN2.out g hf; omega, fun hf => by have := n2 g hf; omega, s, n3.owns HR4.out (fun _ _ h => h), rfl⟩)
    clear n1 n2 n3 HO4 HR4 HS4 HN2 HN3 hsz4 hw2 HR HO2
    go_wp2_with fail
    go_loopw [9] (fun v wr => ∃ (k : Nat), v = .int .i64 k ∧ k ≤ s.length ∧ Over w1 wr F G p q g s.length c (owN s 0)) (fun v _ => s.length - (intOf v).toNat)
    case atStart => exact ⟨0, rfl, Nat.zero_le _, HV.out⟩
    case round =>
      clear HV
      obtain ⟨k, rfl, hk, hV⟩ := hrel
      by_cases hlt : k < s.length
      · obtain ⟨s', hr, hl'⟩ := hV.row
        have y0 := hr.cellAt (k * 3) (by omega)
        have y1 := hr.cellAt (k * 3 + 1) (by omega)
        have y2 := hr.cellAt (k * 3 + 2) (by omega)
        have e0 := trow_get s' k 0 (by omega) (by omega)
        have e1 := trow_get s' k 1 (by omega) (by omega)
        have e2 := trow_get s' k 2 (by omega) (by omega)
        have x0 : wr.cell? ⟨g, k * 3, none⟩ = some (.bool (tel s' k).lost) := y0.trans e0
        have x1 : wr.cell? ⟨g, k * 3 + 1, none⟩ = some (.int .i64 (tel s' k).copies) := y1.trans e1
        have x2 : wr.cell? ⟨g, k * 3 + 2, none⟩ = some (.int .i64 (tel s' k).delay) := y2.trans e2
        have f0 := hr.frozenAt (k * 3)
        have f1 := hr.frozenAt (k * 3 + 1)
        have f2 := hr.frozenAt (k * 3 + 2)
        have HV2 := Lib.hid (fun b => hV.store k ⟨b, 0, 3⟩ hlt hgw)
        clear y0 y1 y2 e0 e1 e2 hr hl' hV
        go_wp2
        go_roundw
        case rel => exact ⟨k + 1, by go_num, by omega, HV2.out _⟩
        case measure => simp [intOf]; omega
      · have HT2 := Lib.hid hV.two
        clear hV
        go_wp2_with fail
        go_loopw [10] (fun v wr => ∃ (k : Nat) (F G : Nat → Prop), v = .int .i64 k ∧ (k : Int) ≤ mn % 30 ∧ Two w1 wr F p (owN s k) G q (owN s k) []) (fun v _ => (mn % 30 - intOf v).toNat)
        case atStart => exact ⟨0, F, G, rfl, by omega, HT2.out⟩
        case round =>
          clear HT2
          obtain ⟨k, F, G, rfl, hk, hT⟩ := hrel
          by_cases hlt : (k : Int) < mn % 30
          · have hm := HSM.out k (by omega)
            have HFX := Lib.hid (owN_fix s k).2
            have HD := Lib.hid (show owN s (k + 1) = sendN (owN s k) k k 0 ByteArray.empty from rfl)
            go_wp2_with fail
            refine (send_any F p _ k k 0 ByteArray.empty _ hT.one.net hT.one.good (by rw [HFX.out]; omega) hm (WalkArith.wf_i64 (by omega)) (by decide)).mono ?_
            rintro e w6 ⟨rfl, hNL⟩
            rw [← HD.out] at hNL
            obtain ⟨F', hT'⟩ := hT.left hNL (by rw [HD.out]; exact good_send hT.one.good _ _ _ _)
            clear hNL hT
            go_wp2_with fail
            refine (send_any G q _ k k 0 ByteArray.empty _ hT'.two.net hT'.two.good (by rw [HFX.out]; omega) hm (WalkArith.wf_i64 (by omega)) (by decide)).mono ?_
            rintro e w7 ⟨rfl, hNL⟩
            rw [← HD.out] at hNL
            obtain ⟨G', hT2⟩ := hT'.right hNL hT'.one.good
            clear hNL hT'
            go_wp2
            go_roundw
            case rel => exact ⟨k + 1, F', G', by go_num, by omega, hT2⟩
            case measure => simp [intOf]; omega
          · have HT3 := Lib.hid hT
            generalize owN s k = N at HT3
            clear hT
            go_wp2_with fail
            go_loopw [11] (fun v wr => ∃ (k : Nat) (F G : Nat → Prop) (N : NS), v = .int .i64 k ∧ k ≤ 300 ∧ Two w1 wr F p N G q N []) (fun v _ => 300 - (intOf v).toNat)
            case atStart => exact ⟨0, F, G, N, rfl, by omega, HT3.out⟩
            case round =>
              clear HT3
              obtain ⟨k, F, G, N, rfl, hk, hT⟩ := hrel
              by_cases hlt : k < 300
              · cases hL : N.L with
                | nil =>
                  have HL := Lib.hid hL
                  clear hL
                  go_wp2_with fail
                  refine (next_nil F p _ _ hT.one.net HL.out).mono ?_
                  rintro e w6 ⟨rfl, hNL⟩
                  obtain ⟨F', hT'⟩ := hT.left hNL hT.one.good
                  have HT' := Lib.hid (hT'.more (.cells #[.int .i64 0, .int .i64 0, .string ByteArray.empty] 31))
                  clear hNL hT hT'
                  go_wp2_with fail
                  refine (next_nil G q _ _ HT'.out.two.net HL.out).mono ?_
                  rintro e w7 ⟨rfl, hNL⟩
                  obtain ⟨G', hT2⟩ := HT'.out.right hNL HT'.out.two.good
                  have hb := (hT2.one.apart w6.heap.size _ List.mem_cons_self).2
                  have x0 := cell_of_row w7 w6.heap.size 0 _ 31 (0, 0) hb
                  have x1 := cell_of_row w7 w6.heap.size 1 _ 31 (0, 0) hb
                  have x2 := cell_of_row w7 w6.heap.size 2 _ 31 (0, 0) hb
                  simp at x0 x1 x2
                  have hsz := (Array.getElem?_eq_some_iff.1 hb).1
                  have HT2 := Lib.hid hT2.forget
                  clear hNL HT' hT2 hb
                  go_wp2
                  go_roundw
                  case rel => exact ⟨k + 1, F', G', _, by go_num, by omega, HT2.out.quiet ((Only.refl _ w7).alloc _)⟩
                  case measure => simp [intOf]; omega
                | cons y M =>
                  have HL := Lib.hid hL
                  clear hL
                  go_wp2_with fail
                  refine (next_cons F p _ _ hT.one.net hT.one.good _ _ HL.out).mono ?_
                  rintro e w6 ⟨rfl, hNL⟩
                  obtain ⟨F', hT'⟩ := hT.left hNL (good_next hT.one.good)
                  have HT' := Lib.hid (hT'.more (.cells #[.int .i64 y.fr, .int .i64 y.to, .string y.tx] 31))
                  clear hNL hT hT'
                  go_wp2_with fail
                  refine (next_cons G q _ _ HT'.out.two.net HT'.out.two.good _ _ HL.out).mono ?_
                  rintro e w7 ⟨rfl, hNL⟩
                  obtain ⟨G', hT2⟩ := HT'.out.right hNL (good_next HT'.out.two.good)
                  have hb := (hT2.one.apart w6.heap.size _ List.mem_cons_self).2
                  have x0 := cell_of_row w7 w6.heap.size 0 _ 31 (0, 0) hb
                  have x1 := cell_of_row w7 w6.heap.size 1 _ 31 (0, 0) hb
                  have x2 := cell_of_row w7 w6.heap.size 2 _ 31 (0, 0) hb
                  simp at x0 x1 x2
                  have hsz := (Array.getElem?_eq_some_iff.1 hb).1
                  have HT2 := Lib.hid hT2.forget
                  clear hNL HT' hT2 hb
                  go_wp2
                  go_roundw
                  case rel => exact ⟨k + 1, F', G', _, by go_num, by omega, HT2.out.quiet ((Only.refl _ w7).alloc _)⟩
                  case measure => simp [intOf]; omega
              · go_wp2
                go_ret
                exact ⟨rfl, (HO1.out.trans hT.one.only).below (Nat.le_refl _) (fun _ _ h => h)⟩
end Go.Proofs.Yteblaedfjifdhaa
