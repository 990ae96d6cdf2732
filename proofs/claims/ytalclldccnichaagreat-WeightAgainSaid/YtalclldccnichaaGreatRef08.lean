/-
  The reference's groups: Polynomial, Boxes. The reference's groups: Check, fits where they hold; mixed. The reference's groups: Mod, next, Crew. The reference's groups: Dealings. The reference's groups: dealings as a list. The reference's groups: a crew is right. The reference's groups: what is dealt passes the check. The reference's groups: Begin, where it begins. The reference's groups: Made. The reference's groups: Made. The reference's groups: At, Chosen.
-/
import Derived.Test.YtalclldccnichaaGreatDeal
import Derived.Test.YtalclldccnichaaGreatPower
import Derived.Test.YtalclldccnichaaGreatSplit
import Derived.Maps.AppendAt
import Derived.Deep.RegionLaw
namespace Go.Proofs.YtalclldccnichaaGreat
open Go.RowKit

def coefS (i : Nat) (seed : ByteArray) : ByteArray := (⟨#[99, 111, 101, 102, 102, 105, 99, 105, 101, 110, 116, 32]⟩ : ByteArray) ++ decB i ++ ⟨#[32, 111, 102, 32]⟩ ++ seed
def polyTo (seed : ByteArray) : Nat → List Int
  | 0 => []
  | k + 1 => polyTo seed k ++ [scalarZ (coefS k seed)]
theorem polyTo_len (seed : ByteArray) : ∀ k, (polyTo seed k).length = k
  | 0 => rfl
  | k + 1 => by rw [polyTo, List.length_append, polyTo_len seed k]; rfl
theorem polyTo_bd (seed : ByteArray) : ∀ k j, 0 ≤ ptAt (polyTo seed k) j ∧ ptAt (polyTo seed k) j < 1152921504606845789
  | 0, j => by simp [polyTo, ptAt]
  | k + 1, j => by
    rw [polyTo, ptAt_snoc]
    split
    · exact scalarZ_bd _
    · exact polyTo_bd seed k j
/-- A list of numbers in a block of its own comes back. -/
def ListPost (w : World) (l : List Int) (e : Ending) (w' : World) : Prop := ∃ v, e = .returned v ∧ w'.ownsRow w.heap.size 3 1 v l.length (irow l) ∧ Only (fun _ => False) w w'

set_option maxHeartbeats 1000000 in
theorem rpoly_any (seed : ByteArray) (n : Nat) (w : World) (hs : seed.size ≤ 100000) (hn : n ≤ 1000) :
    Calls Tryz.prog 20 #[.string seed, .int .i64 n] w (ListPost w (polyTo seed n)) := by
  obtain ⟨i0, hi0, hz0, hz1, hz2⟩ := info_parts Tryz.infoI
  go_enter Tryz.func20, Tryz.ntmps20
  go_wp2_with fail
  go_loopw [5, 6] (fun vo vi wr => ∃ k : Nat, k ≤ n ∧ vi = .int .i64 k ∧ wr.ownsRow w.heap.size 3 1 vo k (irow (polyTo seed k)) ∧ Only (fun _ => False) w wr) (fun _ vi _ => n - (intOf vi).toNat)
  case atStart => exact ⟨0, Nat.zero_le _, rfl, World.ownsRow_nil _ _ _ _, Only.refl _ _⟩
  case round =>
    obtain ⟨k, hk, rfl, hown, hO⟩ := hrel
    have HO := Lib.hid hO
    have HOWN := Lib.hid hown
    by_cases hlt : k < n
    · have HT := Lib.hid (fun w => rtext8_any k w (by omega))
      have s1 := decB_size (n := k) (by omega)
      have hb1 : (⟨#[99, 111, 101, 102, 102, 105, 99, 105, 101, 110, 116, 32]⟩ : ByteArray).size = 12 := rfl
      have hb2 : (⟨#[32, 111, 102, 32]⟩ : ByteArray).size = 4 := rfl
      have HS := Lib.hid (fun w => rscalar_any (coefS k seed) w (by unfold coefS; rw [ByteArray.size_append, ByteArray.size_append, ByteArray.size_append, hb1, hb2]; omega))
      have HPN := Lib.hid (show polyTo seed (k + 1) = polyTo seed k ++ [scalarZ (coefS k seed)] from rfl)
      unfold coefS at HS HPN
      clear hb1 hb2
      generalize decB k = d at *
      generalize scalarZ _ = z at HS HPN
      generalize polyTo seed k = L at *
      obtain ⟨av, cv, rfl⟩ := slice_of_own hown
      clear hO hown
      go_wp2_with fail
      refine (HT.out _).mono ?_
      rintro e w1 ⟨rfl, hO1⟩
      have HO1 := Lib.hid (HO.out.trans hO1)
      have HW1 := Lib.hid (hO1.owns HOWN.out (fun _ _ h => h))
      clear hO1
      go_wp2_with fail
      refine (HS.out _).mono ?_
      rintro e w2 ⟨rfl, hO2⟩
      have HO2 := Lib.hid (HO1.out.trans hO2)
      have hown2 := (hO2.owns HW1.out (fun _ _ h => h)).alloc (.cells #[.int .i64 z] 3)
      have hsz2 := HO2.out.size
      clear hO2
      go_wp2_with (at_builtin; refine wpList_append_lies _ rfl _ _ 22 rfl w.heap.size 3 i0 _ 1 8 Tryz.underlying22 hi0 hz0 hz1 hz2 rfl (by decide) _ k (irow L) rfl hown2 ⟨w2.heap.size, 0, none⟩ 1 1 [.int .i64 z] rfl rfl (cell_one_new _ _ _) (one_int _) (by decide) ?c1 ?c2 ?c3 _ rfl ?_)
      case c1 => unfold maxLen; omega
      case c2 => omega
      case c3 => first | omega | (simp; omega)
      intro g1 cp1 w3 ho1 hg1 ha1 hgl1
      have HO3 := Lib.hid ((HO2.out.alloc (.cells #[.int .i64 z] 3)).grow hown2 (Nat.le_refl _) hg1)
      have HOW := Lib.hid ho1
      clear ho1 hg1 ha1 hown2
      go_wp2
      go_roundw
      case rel => exact ⟨k + 1, by omega, by go_num, by rw [HPN.out, irow_append]; exact HOW.out, HO3.out⟩
      case measure => simp [intOf]; omega
    · obtain rfl : k = n := by omega
      have HR := Lib.hid (show ListPost w (polyTo seed k) (.returned u5) wr from ⟨u5, rfl, by rw [polyTo_len]; exact hown, hO⟩)
      obtain ⟨av, cv, rfl⟩ := slice_of_own hown
      clear hO hown
      go_wp2
      go_ret
      exact HR.out
/-- The keys, one for each point. -/
def boxTo (l : List Mb) : Nat → List Int
  | 0 => []
  | k + 1 => boxTo l k ++ List.replicate (mbAt l k).wt.toNat (mbAt l k).pb
theorem boxTo_len (l : List Mb) (h : ∀ j, 0 ≤ (mbAt l j).wt) : ∀ k, ((boxTo l k).length : Int) = sumTo l k
  | 0 => rfl
  | k + 1 => by
    rw [boxTo, List.length_append, List.length_replicate, sumTo, ← boxTo_len l h k]
    have := h k
    omega

set_option maxHeartbeats 1000000 in
theorem rboxes_some (b off cap : Nat) (l : List Mb) (w : World) (hb : b < w.heap.size) (_hcap : l.length ≤ cap) (_hcap2 : cap ≤ 9223372036854775807) (hl : l.length ≤ 13) (hw : ∀ j, 0 ≤ (mbAt l j).wt ∧ (mbAt l j).wt ≤ 20)
    (hc : ∀ j, j < l.length → w.cell? ⟨b, off + j * 3, none⟩ = some (.int .i64 (mbAt l j).id) ∧ w.cell? ⟨b, off + j * 3 + 1, none⟩ = some (.int .i64 (mbAt l j).wt) ∧ w.cell? ⟨b, off + j * 3 + 2, none⟩ = some (.int .i64 (mbAt l j).pb)) :
    Calls Tryz.prog 38 #[.slice (some ⟨b, off, none⟩) l.length cap] w (ListPost w (boxTo l l.length)) := by
  obtain ⟨i0, hi0, hz0, hz1, hz2⟩ := info_parts Tryz.infoI
  have HC := Lib.hid hc
  have HW := Lib.hid hw
  have HBL := Lib.hid (boxTo_len l (fun j => (hw j).1))
  have HSM := Lib.hid (show ∀ k, sumTo l k ≤ 20 * k from fun k => by
    induction k with
    | zero => simp [sumTo]
    | succ k ih => rw [sumTo]; have := (hw k).2; omega)
  clear hc hw
  go_enter Tryz.func38, Tryz.ntmps38
  go_wp2_with fail
  go_loopw [3, 4] (fun vo vi wr => ∃ k : Nat, k ≤ l.length ∧ vi = .int .i64 k ∧ wr.ownsRow w.heap.size 3 1 vo (boxTo l k).length (irow (boxTo l k)) ∧ Only (fun _ => False) w wr) (fun _ vi _ => l.length - (intOf vi).toNat)
  case atStart => exact ⟨0, Nat.zero_le _, rfl, World.ownsRow_nil _ _ _ _, Only.refl _ _⟩
  case round =>
    obtain ⟨k, hk, rfl, hown, hO⟩ := hrel
    have HO := Lib.hid hO
    have HOWN := Lib.hid hown
    by_cases hlt : k < l.length
    · obtain ⟨_, e1, e2⟩ := HC.out k hlt
      obtain ⟨hw1, hw2⟩ := HW.out k
      have hlen : (boxTo l k).length ≤ 260 := by have := HBL.out k; have := HSM.out k; omega
      have HBN := Lib.hid (show boxTo l (k + 1) = boxTo l k ++ List.replicate (mbAt l k).wt.toNat (mbAt l k).pb from rfl)
      generalize mbAt l k = m at *
      obtain ⟨id, wt, pb⟩ := m
      dsimp only at e1 e2 hw1 hw2 HBN
      obtain ⟨wn, rfl⟩ : ∃ wn : Nat, wt = wn := ⟨wt.toNat, by omega⟩
      rw [Int.toNat_natCast] at HBN
      generalize boxTo l k = L at *
      obtain ⟨av, cv, rfl⟩ := slice_of_own hown
      clear hO hown
      go_wp2_with fail
      go_loopw [3, 5] (fun vo vt wi => ∃ t : Nat, t ≤ wn ∧ vt = .int .i64 t ∧ wi.ownsRow w.heap.size 3 1 vo (L.length + t) (irow (L ++ List.replicate t pb)) ∧ Only (fun _ => False) w wi) (fun _ vt _ => wn - (intOf vt).toNat)
      case atStart => exact ⟨0, Nat.zero_le _, rfl, by rw [List.replicate_zero, List.append_nil]; exact HOWN.out, HO.out⟩
      case round =>
        clear HOWN HO
        obtain ⟨t, ht, rfl, hown, hO⟩ := hrel
        have HO := Lib.hid hO
        have HOWN := Lib.hid hown
        have hsz := hO.size
        have c1 := hO.cell e1 (fun h => h)
        have c2 := hO.cell e2 (fun h => h)
        have hbw : b < wr.heap.size := by omega
        by_cases htl : t < wn
        · have hown2 := hown.alloc (.cells #[.int .i64 pb] 3)
          have HRE := Lib.hid (show L ++ List.replicate (t + 1) pb = L ++ List.replicate t pb ++ [pb] by rw [List.replicate_succ', List.append_assoc])
          obtain ⟨av, cv, rfl⟩ := slice_of_own hown
          clear hO hown
          go_wp2_with (at_builtin; refine wpList_append_lies _ rfl _ _ 22 rfl w.heap.size 3 i0 _ 1 8 Tryz.underlying22 hi0 hz0 hz1 hz2 rfl (by decide) _ (L.length + t) (irow (L ++ List.replicate t pb)) rfl hown2 ⟨wr.heap.size, 0, none⟩ 1 1 [.int .i64 pb] rfl rfl (cell_one_new _ _ _) (one_int _) (by decide) ?c1 ?c2 ?c3 _ rfl ?_)
          case c1 => unfold maxLen; omega
          case c2 => omega
          case c3 => first | omega | (simp; omega)
          intro g1 cp1 w3 ho1 hg1 ha1 hgl1
          have HO3 := Lib.hid ((HO.out.alloc (.cells #[.int .i64 pb] 3)).grow hown2 (Nat.le_refl _) hg1)
          have HOW := Lib.hid ho1
          clear ho1 hg1 ha1 hown2
          go_wp2
          go_roundw
          case rel => exact ⟨t + 1, by omega, by go_num, by rw [HRE.out, irow_append]; exact HOW.out, HO3.out⟩
          case measure => simp [intOf]; omega
        · obtain rfl : t = wn := by omega
          obtain ⟨av, cv, rfl⟩ := slice_of_own hown
          clear hO hown
          go_wp2
          go_roundw
          case rel => exact ⟨k + 1, by omega, by go_num, by rw [HBN.out, List.length_append, List.length_replicate]; exact HOWN.out, HO.out⟩
          case measure => simp [intOf]; omega
    · obtain rfl : k = l.length := by omega
      have HR := Lib.hid (show ListPost w (boxTo l l.length) (.returned u3) wr from ⟨u3, rfl, hown, hO⟩)
      obtain ⟨av, cv, rfl⟩ := slice_of_own hown
      clear hO hown
      go_wp2
      go_ret
      exact HR.out
end Go.Proofs.YtalclldccnichaaGreat

namespace Go.Proofs.YtalclldccnichaaGreat
open Go.RowKit

theorem StrsAt.cellAt {W : World} {a : Option Addr} {len c k : Nat} {l : List ByteArray} (h : StrsAt W (.slice a len c) l) (hk : k < l.length) :
    ∃ b off, a = some ⟨b, off, none⟩ ∧ b < W.heap.size ∧ l.length ≤ c ∧ c ≤ 9223372036854775807 ∧ W.cell? ⟨b, off + k, none⟩ = some (.string (sAt l k)) := by
  rcases h with ⟨_, _, _, h0⟩ | ⟨b, off, cap, hv, hb, h1, h2, hc⟩
  · rw [h0] at hk; simp at hk
  · simp only [Value.slice.injEq] at hv
    obtain ⟨rfl, _, rfl⟩ := hv
    exact ⟨b, off, rfl, hb, h1, h2, hc k hk⟩
/-- A dealing is in form. -/
structure ChkOk (d : Dl) (n : Nat) : Prop where
  bl : d.bx.length = n
  c1 : 1 ≤ d.cm.length
  c2 : d.cm.length ≤ n
  pt : memB d.pt = true
  cm : membersB d.cm = true
  b16 : ∀ j, j < n → (sAt d.bx j).size = 16

set_option maxRecDepth 100000 in
set_option maxHeartbeats 1000000 in
theorem rcheck_yes (c0 c2 : Value) (d : Dl) (n : Nat) (w : World) (hD : DlAt w c0 (.int .i64 d.pt) c2 d) (hn : n ≤ 1000) (hk : ChkOk d n) :
    Calls Tryz.prog 72 #[.agg #[c0, .int .i64 d.pt, c2], .int .i64 n] w fun e w' => e = .returned (.bool true) ∧ Only (fun _ => False) w w' := by
  obtain ⟨a0, k0, rfl⟩ := hD.cm.slice
  obtain ⟨a2, k2, rfl⟩ := hD.bx.slice
  have HMP := Lib.hid (fun w => rmember_is d.pt true w hk.pt)
  have h1 := hk.c1
  have h2 := hk.c2
  have h3 := hk.bl
  have H16 := Lib.hid hk.b16
  have hO := (Only.refl (fun _ => False) w).alloc (.cells #[.slice a0 d.cm.length k0, .int .i64 d.pt, .slice a2 d.bx.length k2] 72)
  have hz := heap_alloc_last w (.cells #[.slice a0 d.cm.length k0, .int .i64 d.pt, .slice a2 d.bx.length k2] 72)
  have HMM := Lib.hid (rmembers_is _ d.cm true _ (hD.cm.only hO) (by omega) hk.cm)
  have HBX := Lib.hid (hD.bx.only hO)
  have e0 := cell_of_row _ _ 0 _ _ _ hz
  have e1 := cell_of_row _ _ 1 _ _ _ hz
  have e2 := cell_of_row _ _ 2 _ _ _ hz
  have l0 := (Array.getElem?_eq_some_iff.1 hz).1
  have HO := Lib.hid hO
  rw [h3] at e2 HBX hO hz e0 e1 l0 HMM HO ⊢
  have q1 : ((n : Int) != n) = false := by simp
  have q2 : ¬ (d.cm.length : Int) < 1 := by omega
  have q3 : ¬ (n : Int) < d.cm.length := by omega
  have HBL := Lib.hid h3
  generalize d.pt = pt at *
  generalize hcl : d.cm.length = cl at *
  clear hD hO hz hk h3 hcl
  go_enter Tryz.func72, Tryz.ntmps72
  go_wp2_with fail
  generalize w.alloc (.cells #[.slice a0 cl k0, .int .i64 pt, .slice a2 n k2] 72) = w1 at *
  refine (HMP.out _).mono ?_
  rintro e w' ⟨rfl, rfl⟩
  go_wp2_with fail
  refine HMM.out.mono ?_
  rintro e w' ⟨rfl, rfl⟩
  go_wp2_with fail
  go_loop [7] (fun vi => ∃ k : Nat, k ≤ n ∧ vi = .int .i64 k) (fun vi => n - (intOf vi).toNat)
  case atStart => exact ⟨0, Nat.zero_le _, rfl⟩
  case round =>
    obtain ⟨k, hk, rfl⟩ := hrel
    by_cases hlt : k < n
    · obtain ⟨b, off, rfl, hb, hc1, hc2, hcell⟩ := HBX.out.cellAt (k := k) (by rw [HBL.out]; exact hlt)
      have h16 := H16.out k hlt
      have q4 : (((sAt d.bx k).size : Int) != 16) = false := by rw [h16]; rfl
      generalize sAt d.bx k = s at *
      have hcn : n ≤ k2 := by have := HBL.out; omega
      have i1 : (k : Int) < n := by omega
      clear h16 hk
      go_wp2
      go_round
      case rel => exact ⟨k + 1, by omega, by go_num⟩
      case measure => simp [intOf]; omega
    · obtain rfl : k = n := by omega
      have i1 : ¬ (k : Int) < k := by omega
      go_wp2
      go_ret
      exact ⟨rfl, HO.out⟩
def dlAt (l : List Dl) (j : Nat) : Dl := l.getD j ⟨[], 0, []⟩
/-- Dealings in a slice. -/
def DlsAt (W : World) (sv : Value) (l : List Dl) : Prop :=
  (∃ a c, sv = .slice a 0 c ∧ l = []) ∨ ∃ b off cap, sv = .slice (some ⟨b, off, none⟩) l.length cap ∧ b < W.heap.size ∧ l.length ≤ cap ∧ cap ≤ 9223372036854775807 ∧
    ∀ j, j < l.length → ∃ c0 c2, W.cell? ⟨b, off + j * 3, none⟩ = some c0 ∧ W.cell? ⟨b, off + j * 3 + 1, none⟩ = some (.int .i64 (dlAt l j).pt) ∧ W.cell? ⟨b, off + j * 3 + 2, none⟩ = some c2 ∧ DlAt W c0 (.int .i64 (dlAt l j).pt) c2 (dlAt l j)
theorem DlsAt.only {A B : World} (h : Only (fun _ => False) A B) {sv : Value} {l : List Dl} : DlsAt A sv l → DlsAt B sv l
  | .inl e => .inl e
  | .inr ⟨b, off, cap, e, hb, h1, h2, hc⟩ => .inr ⟨b, off, cap, e, Nat.lt_of_lt_of_le hb h.size, h1, h2, fun j hj => by
      obtain ⟨c0, c2, x0, x1, x2, hd⟩ := hc j hj
      exact ⟨c0, c2, h.cell x0 (fun h => h), h.cell x1 (fun h => h), h.cell x2 (fun h => h), hd.only h⟩⟩
theorem DlsAt.slice {W : World} {v : Value} {l : List Dl} (h : DlsAt W v l) : ∃ a c, v = .slice a l.length c := by
  rcases h with ⟨a, c, rfl, rfl⟩ | ⟨b, off, cap, rfl, _⟩
  · exact ⟨_, _, rfl⟩
  · exact ⟨_, _, rfl⟩
theorem DlsAt.cellAt {W : World} {a : Option Addr} {len c k : Nat} {l : List Dl} (h : DlsAt W (.slice a len c) l) (hk : k < l.length) :
    ∃ b off c0 c2, a = some ⟨b, off, none⟩ ∧ b < W.heap.size ∧ l.length ≤ c ∧ c ≤ 9223372036854775807 ∧ W.cell? ⟨b, off + k * 3, none⟩ = some c0 ∧ W.cell? ⟨b, off + k * 3 + 1, none⟩ = some (.int .i64 (dlAt l k).pt) ∧ W.cell? ⟨b, off + k * 3 + 2, none⟩ = some c2 ∧ DlAt W c0 (.int .i64 (dlAt l k).pt) c2 (dlAt l k) := by
  rcases h with ⟨_, _, _, h0⟩ | ⟨b, off, cap, hv, hb, h1, h2, hc⟩
  · rw [h0] at hk; simp at hk
  · simp only [Value.slice.injEq] at hv
    obtain ⟨rfl, _, rfl⟩ := hv
    obtain ⟨c0, c2, x0, x1, x2, hd⟩ := hc k hk
    exact ⟨b, off, c0, c2, rfl, hb, h1, h2, x0, x1, x2, hd⟩

set_option maxRecDepth 100000 in
set_option maxHeartbeats 1000000 in
theorem rfits_yes (sv : Value) (l : List Dl) (n nd : Nat) (w : World) (hD : DlsAt w sv l) (hl : 1 ≤ l.length) (hl2 : l.length ≤ 1000) (hn : n ≤ 1000) (hnd : needZ n = nd) (hk : ∀ j, j < l.length → ChkOk (dlAt l j) n ∧ (dlAt l j).cm.length = nd) :
    Calls Tryz.prog 44 #[sv, .int .i64 n] w fun e w' => e = .returned (.bool true) ∧ Only (fun _ => False) w w' := by
  obtain ⟨a, c, rfl⟩ := hD.slice
  have HD := Lib.hid hD
  have HK := Lib.hid hk
  have HND := Lib.hid (fun w => rneed_is n nd w (by omega) hnd)
  clear hD hk hnd
  go_enter Tryz.func44, Tryz.ntmps44
  go_wp2_with fail
  go_loopw [5] (fun vi wr => ∃ k : Nat, k ≤ l.length ∧ vi = .int .i64 k ∧ Only (fun _ => False) w wr) (fun vi _ => l.length - (intOf vi).toNat)
  case atStart => exact ⟨0, Nat.zero_le _, rfl, Only.refl _ _⟩
  case round =>
    obtain ⟨k, hk, rfl, hO⟩ := hrel
    have HO := Lib.hid hO
    by_cases hlt : k < l.length
    · obtain ⟨b, off, c0, c2, rfl, hb, hc1, hc2, x0, x1, x2, hd⟩ := (HD.out.only hO).cellAt hlt
      obtain ⟨hck, hcl⟩ := HK.out k hlt
      have HCK := Lib.hid (rcheck_yes c0 c2 (dlAt l k) n wr hd hn hck)
      obtain ⟨a0, k0, hc0v⟩ := hd.cm.slice
      obtain ⟨a2, k2, hc2v⟩ := hd.bx.slice
      rw [hcl] at hc0v
      subst hc0v hc2v
      generalize (dlAt l k).pt = pt at *
      generalize (dlAt l k).bx.length = bl at *
      have i1 : (k : Int) < l.length := by omega
      have i2 : 0 ≤ (k : Int) := by omega
      have q1 : ((nd : Int) != nd) = false := by simp
      clear hd hO hck hcl hk
      go_wp2_with fail
      refine HCK.out.mono ?_
      rintro e w1 ⟨rfl, hO1⟩
      have HO1 := Lib.hid (HO.out.trans hO1)
      have y0 := hO1.cell x0 (fun h => h)
      have hb1 := Nat.lt_of_lt_of_le hb hO1.size
      clear hO1 x0 x1 x2 HCK
      go_wp2_with fail
      go_quiet ((go_at_call 34; exact quiet_left (HND.out _)))
      have HO2 := Lib.hid (HO1.out.drewN nq)
      go_wp2
      go_roundw
      case rel => exact ⟨k + 1, by omega, by go_num, HO2.out⟩
      case measure => simp [intOf]; omega
    · obtain rfl : k = l.length := by omega
      have i1 : ¬ (l.length : Int) < l.length := by omega
      have i2 : decide (0 < l.length) = true := decide_eq_true (by omega)
      have i3 : decide ((0 : Int) < l.length) = true := decide_eq_true (by omega)
      clear hO
      go_wp2
      go_ret
      exact ⟨rfl, HO.out⟩

/-- The product of powers of commitments. -/
def mixTo (l : List Dl) (pw : List Int) (j : Nat) : Nat → Int
  | 0 => 1
  | k + 1 => mixTo l pw j k * powM (ptAt (dlAt l k).cm j) (ptAt pw k) 2305843009213691579 % 2305843009213691579
def mixL (l : List Dl) (pw : List Int) : Nat → List Int
  | 0 => []
  | m + 1 => mixL l pw m ++ [mixTo l pw m l.length]
theorem mixL_len (l : List Dl) (pw : List Int) : ∀ m, (mixL l pw m).length = m
  | 0 => rfl
  | m + 1 => by rw [mixL, List.length_append, mixL_len l pw m]; rfl

set_option maxRecDepth 100000 in
set_option maxHeartbeats 2000000 in
theorem rmixed_any (sv pv : Value) (l : List Dl) (pw : List Int) (nd : Nat) (w : World) (hD : DlsAt w sv l) (hP : PtsAt w.heap.size w pv pw) (hpl : pw.length = l.length) (_hl2 : l.length ≤ 1000) (hnd : nd ≤ 1000) (hk : ∀ j, j < l.length → nd ≤ (dlAt l j).cm.length) (hpw : ∀ j, j < pw.length → 0 ≤ ptAt pw j ∧ ptAt pw j ≤ 9223372036854775807) :
    Calls Tryz.prog 46 #[sv, pv, .int .i64 nd] w (ListPost w (mixL l pw nd)) := by
  obtain ⟨i0, hi0, hz0, hz1, hz2⟩ := info_parts Tryz.infoI
  obtain ⟨a, c, rfl⟩ := hD.slice
  obtain ⟨ap, cp, rfl⟩ := hP.slice
  have HD := Lib.hid hD
  have HP := Lib.hid hP
  have HK := Lib.hid hk
  have HPW := Lib.hid hpw
  have HPL := Lib.hid hpl
  rw [hpl]
  clear hD hP hk hpw hpl
  go_enter Tryz.func46, Tryz.ntmps46
  go_wp2_with fail
  go_loopw [7, 8] (fun vo vi wr => ∃ j : Nat, j ≤ nd ∧ vi = .int .i64 j ∧ wr.ownsRow w.heap.size 3 1 vo j (irow (mixL l pw j)) ∧ Only (fun _ => False) w wr) (fun _ vi _ => nd - (intOf vi).toNat)
  case atStart => exact ⟨0, Nat.zero_le _, rfl, World.ownsRow_nil _ _ _ _, Only.refl _ _⟩
  case round =>
    obtain ⟨j, hj, rfl, hown, hO⟩ := hrel
    have HO := Lib.hid hO
    have HOWN := Lib.hid hown
    have HR := Lib.hid (fun (h : j = nd) => show ListPost w (mixL l pw nd) (.returned u7) wr from ⟨u7, rfl, by rw [mixL_len, ← h]; exact hown, hO⟩)
    obtain ⟨av, cv, rfl⟩ := slice_of_own hown
    clear hO hown
    by_cases hlt : j < nd
    · obtain ⟨wo, hwo⟩ : ∃ wo : World, wo = wr := ⟨_, rfl⟩
      subst hwo
      clear HR
      go_wp2_with fail
      go_loopw [9, 10] (fun vc vk wi => ∃ (k n : Nat), k ≤ l.length ∧ vk = .int .i64 k ∧ vc = .int .i64 (mixTo l pw j k) ∧ wi = wo.drewN n) (fun _ vk _ => l.length - (intOf vk).toNat)
      case atStart => exact ⟨0, 0, Nat.zero_le _, rfl, rfl, rfl⟩
      case round =>
        obtain ⟨k, n, hk, rfl, rfl, rfl⟩ := hrel
        by_cases hkl : k < l.length
        · obtain ⟨b, off, c0, c2, rfl, hb, hc1, hc2, x0, x1, x2, hd⟩ := (HD.out.only HO.out).cellAt hkl
          have hcl := HK.out k hkl
          obtain ⟨a0, k0, hc0v⟩ := hd.cm.slice
          subst hc0v
          obtain ⟨bc, oc, rfl, hbc, hl0, hcc1, hcc2, hcell⟩ := hd.cm.cellAt (k := j) (by omega)
          obtain ⟨bp, op, rfl, hbp, hl1, hcp1, hcp2, hcellp⟩ := (HP.out.only HO.out).cellAt (k := k) (by rw [HPL.out]; exact hkl)
          obtain ⟨p0, p1⟩ := HPW.out k (by rw [HPL.out]; exact hkl)
          have HMX := Lib.hid (show mixTo l pw j (k + 1) = mixTo l pw j k * powM (ptAt (dlAt l k).cm j) (ptAt pw k) 2305843009213691579 % 2305843009213691579 from rfl)
          generalize ptAt (dlAt l k).cm j = cz at *
          generalize ptAt pw k = pz at *
          generalize mixTo l pw j k = mz at *
          generalize (dlAt l k).cm.length = cl at *
          have hcp3 : l.length ≤ cp := by have := HPL.out; omega
          have i1 : (k : Int) < l.length := by omega
          have i2 : 0 ≤ (k : Int) := by omega
          have i3 : (j : Int) < cl := by omega
          have i4 : 0 ≤ (j : Int) := by omega
          clear hl0 hl1 hd x1 x2 hk
          go_wp2_with fail
          go_quiet ((first | (go_at_call 59; exact quiet_add_left (rpow_any _ _ _ _ (by decide) (by decide) p0 p1)) | (go_at_call 50; exact quiet_add_left (rmul_any _ _ _ _ (by decide) (by decide)))))
          go_wp2
          go_roundw
          case rel => exact ⟨k + 1, n + nq, by omega, by go_num, by rw [HMX.out], by first | rfl | trivial⟩
          case measure => simp [intOf]; omega
        · obtain rfl : k = l.length := by omega
          have i1 : ¬ (l.length : Int) < l.length := by omega
          have HMN := Lib.hid (show mixL l pw (j + 1) = mixL l pw j ++ [mixTo l pw j l.length] from rfl)
          generalize mixTo l pw j l.length = z at *
          have hown2 := (owns_drewN n HOWN.out).alloc (.cells #[.int .i64 z] 3)
          have HON := Lib.hid (HO.out.drewN n)
          have hsz := HO.out.size
          clear hkl hk HOWN
          have hszn : w.heap.size ≤ (wo.drewN n).heap.size := hsz
          generalize wo.drewN n = wn at *
          go_wp2_with (at_builtin; refine wpList_append_lies _ rfl _ _ 22 rfl w.heap.size 3 i0 _ 1 8 Tryz.underlying22 hi0 hz0 hz1 hz2 rfl (by decide) _ j (irow (mixL l pw j)) rfl hown2 ⟨wn.heap.size, 0, none⟩ 1 1 [.int .i64 z] rfl rfl (cell_one_new _ _ _) (one_int _) (by decide) ?c1 ?c2 ?c3 _ rfl ?_)
          case c1 => unfold maxLen; omega
          case c2 => omega
          case c3 => first | omega | (simp; omega)
          intro g1 cp1 w3 ho1 hg1 ha1 hgl1
          have HO3 := Lib.hid ((HON.out.alloc (.cells #[.int .i64 z] 3)).grow hown2 (Nat.le_refl _) hg1)
          have HOW := Lib.hid ho1
          clear ho1 hg1 ha1 hown2
          go_wp2
          go_roundw
          case rel => exact ⟨j + 1, by omega, by go_num, by rw [HMN.out, irow_append]; exact HOW.out, HO3.out⟩
          case measure => simp [intOf]; omega
    · obtain rfl : j = nd := by omega
      have HR2 := Lib.hid (HR.out rfl)
      clear HR
      go_wp2
      go_ret
      exact HR2.out
end Go.Proofs.YtalclldccnichaaGreat

namespace Go.Proofs.YtalclldccnichaaGreat
open Go.RowKit

theorem rmod2_any (a m : Int) (w : World) (hm : 0 < m) (hm2 : m ≤ 9223372036854775807) :
    Calls Tryz.prog 43 #[.int .i64 a, .int .i64 m] w fun e w' => e = .returned (.int .i64 (a % m)) ∧ w = w' := by
  have h1 := Int.lt_tmod_of_pos a hm
  have h2 := Int.tmod_lt_of_pos a hm
  have HF := Lib.hid (tmod_fix a m hm)
  have hz : (m == 0) = false := beq_eq_false_iff_ne.2 (by omega)
  by_cases h0 : a.tmod m < 0
  · go_enter Tryz.func43, Tryz.ntmps43
    go_wp2
    go_ret
    refine ⟨ret_int ?_, rfl⟩
    rw [← HF.out, if_pos h0]
  · go_enter Tryz.func43, Tryz.ntmps43
    go_wp2
    go_ret
    refine ⟨ret_int ?_, rfl⟩
    rw [← HF.out, if_neg (by omega)]
/-- The t-th number that is read. -/
def nxT (zs : List Int) (t : Nat) (n : Int) : Int := if t < zs.length then ptAt zs t % n else 0
theorem nxT_bd (zs : List Int) (t : Nat) (n : Int) (hn : 0 < n) : 0 ≤ nxT zs t n ∧ nxT zs t n < n := by
  unfold nxT; split
  · exact emod_self_lt _ _ hn
  · omega
/-- Numbers of which t have been asked for. -/
structure NumAt (W : World) (g : Nat) (sv : Value) (zs : List Int) (t : Nat) : Prop where
  blk : W.heap[g]? = some (.cells #[sv, .int .i64 ((min t zs.length : Nat) : Int)] 83 (0, 0))
  pts : PtsAt W.heap.size W sv zs
  far : 0 < zs.length → ∀ a n c, sv = .slice (some a) n c → a.block ≠ g
theorem NumAt.only {A B : World} {g : Nat} {sv : Value} {zs : List Int} {t : Nat} (h : NumAt A g sv zs t) (hO : Only (fun _ => False) A B) : NumAt B g sv zs t := ⟨row_still hO h.blk, h.pts.only hO, h.far⟩
def NextPost (w : World) (g : Nat) (sv : Value) (zs : List Int) (t : Nat) (n : Int) (e : Ending) (w' : World) : Prop := e = .returned (.int .i64 (nxT zs t n)) ∧ NumAt w' g sv zs (t + 1) ∧ Only (fun i => i = g) w w'

set_option maxRecDepth 100000 in
set_option maxHeartbeats 1000000 in
theorem rnext_any (g : Nat) (sv : Value) (zs : List Int) (t : Nat) (n : Int) (w : World) (hN : NumAt w g sv zs t) (hn : 0 < n) (hn2 : n ≤ 1000000) (hlen : zs.length ≤ 9223372036854775807) :
    Calls Tryz.prog 47 #[.pointer (some ⟨g, 0, none⟩), .int .i64 n] w (NextPost w g sv zs t n) := by
  obtain ⟨hb, hp, hf⟩ := hN
  have e0 := cell_of_row _ _ 0 _ _ _ hb
  have e1 := cell_of_row _ _ 1 _ _ _ hb
  have l0 := (Array.getElem?_eq_some_iff.1 hb).1
  have f1 := frozen_of_row _ _ 1 _ _ hb
  obtain ⟨a, c, rfl⟩ := hp.slice
  have HP := Lib.hid hp
  by_cases hlt : t < zs.length
  · have hmin : min t zs.length = t := by omega
    rw [hmin] at e1 hb
    have HNX := Lib.hid (show nxT zs t n = ptAt zs t % n from if_pos hlt)
    obtain ⟨b, off, rfl, hbl, hl0, hc1, hc2, hcell⟩ := hp.cellAt hlt
    have hbg : b ≠ g := hf (by omega) ⟨b, off, none⟩ _ _ rfl
    have hadd : (⟨b, off, none⟩ : Addr).add t = ⟨b, off + t, none⟩ := by unfold Addr.add; split <;> simp_all
    have HB2 := Lib.hid (heap_setCell_same w g 1 _ _ (.int .i64 ((t : Int) + 1)) hb)
    have HF := Lib.hid hf
    have q1 : ¬ (zs.length : Int) ≤ t := by omega
    have q2 : decide ((zs.length : Int) ≤ t) = false := decide_eq_false q1
    generalize ptAt zs t = z at *
    clear hl0 hp hb hmin hf hadd
    go_enter Tryz.func47, Tryz.ntmps47
    go_wp2_with fail
    go_quiet (fail)
    go_wp2_with fail
    have hb2 : ((w.drewN nq).setCell ⟨g, 1, none⟩ (.int .i64 ((t : Int) + 1))).heap[g]? = some (.cells #[.slice (some ⟨b, off, none⟩) zs.length c, .int .i64 ((t : Int) + 1)] 83 (0, 0)) := HB2.out
    have d0 := cell_of_row _ _ 0 _ _ _ hb2
    have d1 := cell_of_row _ _ 1 _ _ _ hb2
    have l2 := (Array.getElem?_eq_some_iff.1 hb2).1
    have hO2 : Only (fun i => i = g) w ((w.drewN nq).setCell ⟨g, 1, none⟩ (.int .i64 ((t : Int) + 1))) := ((Only.refl (fun i => i = g) w).drewN nq).setCell (.inl rfl) _
    have dz := hO2.cell hcell hbg
    have HO2 := Lib.hid hO2
    have HBL := Lib.hid hb2
    have HPT := Lib.hid (pts_setOther (w := w.drewN nq) (show PtsAt (w.drewN nq).heap.size (w.drewN nq) _ _ from HP.out) (HF.out (by omega)) 1 (.int .i64 ((t : Int) + 1)))
    clear hb2 hO2 HB2 e0 e1 f1 l0 hcell
    generalize (w.drewN nq).setCell ⟨g, 1, none⟩ (.int .i64 ((t : Int) + 1)) = w2 at *
    have k1 : IntKind.i64.wrap ((t : Int) + 1 - 1) = t := by rw [show (t : Int) + 1 - 1 = t by omega]; exact IntWalk.i64_in _ (by omega)
    have k2 : (t : Int) + 1 - 1 = t := by omega
    have k3 : (t : Int) < zs.length := by omega
    have k4 : 0 ≤ (t : Int) := by omega
    have hbw : b < w2.heap.size := by have := HO2.out.size; omega
    go_quiet ((go_at_call 43; exact quiet_left (rmod2_any _ _ _ hn (by omega))))
    have HR := Lib.hid (show NextPost w g (.slice (some ⟨b, off, none⟩) zs.length c) zs t n (.returned (.int .i64 (z % n))) (w2.drewN nq) from ⟨by rw [HNX.out], ⟨by rw [show min (t + 1) zs.length = t + 1 by omega]; exact HBL.out, HPT.out, HF.out⟩, HO2.out.drewN nq⟩)
    clear k1 k2
    go_wp2
    go_ret
    exact HR.out
  · have hmin : min t zs.length = zs.length := by omega
    have hmin2 : min (t + 1) zs.length = zs.length := by omega
    rw [hmin] at e1 hb
    have HR := Lib.hid (fun m => show NextPost w g (.slice a zs.length c) zs t n (.returned (.int .i64 0)) (w.drewN m) from ⟨by unfold nxT; rw [if_neg hlt], ⟨by rw [hmin2]; exact hb, hp, hf⟩, (Only.refl _ w).drewN m⟩)
    have q2 : decide ((zs.length : Int) ≤ zs.length) = true := by simp
    clear hb hp hmin hmin2 hf hlt
    go_enter Tryz.func47, Tryz.ntmps47
    go_wp2_with fail
    go_quiet (fail)
    go_wp2
    go_ret
    exact HR.out _
def memS (n : Nat) : ByteArray := (⟨#[109, 101, 109, 98, 101, 114, 32]⟩ : ByteArray) ++ decB n
def crewTo (zs : List Int) (first : Nat) : Nat → List Mb
  | 0 => []
  | k + 1 => crewTo zs first k ++ [⟨first + k, 1 + nxT zs (1 + k) 3, keyP (memS (first + k))⟩]
def secTo (first : Nat) : Nat → List Int
  | 0 => []
  | k + 1 => secTo first k ++ [keyS (memS (first + k))]
theorem crewTo_len (zs : List Int) (first : Nat) : ∀ k, (crewTo zs first k).length = k
  | 0 => rfl
  | k + 1 => by rw [crewTo, List.length_append, crewTo_len zs first k]; rfl
theorem secTo_len (first : Nat) : ∀ k, (secTo first k).length = k
  | 0 => rfl
  | k + 1 => by rw [secTo, List.length_append, secTo_len first k]; rfl
def manyZ (zs : List Int) : Nat := (1 + nxT zs 0 4).toNat

structure CrewAt (w wr : World) (g : Nat) (sv vm vs : Value) (M : List Mb) (S : List Int) (zs : List Int) (t : Nat) : Prop where
  num : NumAt wr g sv zs t
  mem : wr.ownsRow (g + 1) 68 3 vm M.length (mrow M)
  sec : wr.ownsRow (g + 1) 3 1 vs S.length (irow S)
  ne : ∀ k, vm.ownBlock = some k → vs.ownBlock ≠ some k
  low : w.heap.size ≤ g
  pts : PtsAt w.heap.size w sv zs
  only : Only (fun _ => False) w wr
theorem CrewAt.frame {w wr w' : World} {g : Nat} {sv vm vs : Value} {M : List Mb} {S zs : List Int} {t : Nat} (h : CrewAt w wr g sv vm vs M S zs t) (hO : Only (fun _ => False) wr w') : CrewAt w w' g sv vm vs M S zs t :=
  ⟨h.num.only hO, hO.owns h.mem (fun _ _ h => h), hO.owns h.sec (fun _ _ h => h), h.ne, h.low, h.pts, h.only.trans hO⟩
theorem CrewAt.next {w wr w' : World} {g : Nat} {sv vm vs : Value} {M : List Mb} {S zs : List Int} {t : Nat} (h : CrewAt w wr g sv vm vs M S zs t) (hN : NumAt w' g sv zs (t + 1)) (hO : Only (fun i => i = g) wr w') : CrewAt w w' g sv vm vs M S zs (t + 1) :=
  ⟨hN, hO.owns h.mem (fun k hk e => by have := own_low' h.mem hk; omega), hO.owns h.sec (fun k hk e => by have := own_low' h.sec hk; omega), h.ne, h.low, h.pts, h.only.trans' hO (fun i hi e => by have := h.low; omega)⟩
theorem CrewAt.mem1 {w wn w' : World} {g : Nat} {sv vm vs : Value} {M : List Mb} {S zs : List Int} {t k : Nat} (h : CrewAt w wn g sv vm vs M S zs t) (hk : M.length = k) {m : Mb} {gg cap : Nat}
    (hown : w'.ownsRow (g + 1) 68 3 (.slice (some ⟨gg, 0, none⟩) (k + 1) cap) (k + 1) (mrow M ++ [.int .i64 m.id, .int .i64 m.wt, .int .i64 m.pb])) (hg : wn.grownBy w' vm.ownBlock) (hat : vm.ownBlock = some gg ∨ gg = wn.heap.size) :
    CrewAt w w' g sv (.slice (some ⟨gg, 0, none⟩) (k + 1) cap) vs (M ++ [m]) S zs t := by
  subst hk
  have hO : Only (fun k => vm.ownBlock = some k) wn w' := (Only.refl _ wn).grown hg (fun k e _ => e)
  have hon : Only (fun _ => False) w w' := h.only.trans' hO (fun i hi hp => by have := own_low' h.mem hp; have := h.low; omega)
  have hgb : (Value.slice (some ⟨gg, 0, none⟩) (M.length + 1) cap).ownBlock = some gg := rfl
  refine ⟨⟨(hO.block g (Array.getElem?_eq_some_iff.1 h.num.blk).1 (fun e => by have := own_low' h.mem e; omega)).trans h.num.blk, h.pts.only hon, h.num.far⟩, ?_, hO.owns h.sec (fun k hq hp => h.ne k hp hq), ?_, h.low, h.pts, hon⟩
  · rw [List.length_append, List.length_singleton, mrow_append]; exact hown
  · intro k hk hq
    rw [hgb] at hk
    obtain rfl : gg = k := by simpa using hk
    rcases hat with hat | hat
    · exact h.ne gg hat hq
    · have := (own_lt h.sec hq).1; omega
theorem CrewAt.sec1 {w wn w' : World} {g : Nat} {sv vm vs : Value} {M : List Mb} {S zs : List Int} {t k : Nat} (h : CrewAt w wn g sv vm vs M S zs t) (hk : S.length = k) {z : Int} {gg cap : Nat}
    (hown : w'.ownsRow (g + 1) 3 1 (.slice (some ⟨gg, 0, none⟩) (k + 1) cap) (k + 1) (irow S ++ [.int .i64 z])) (hg : wn.grownBy w' vs.ownBlock) (hat : vs.ownBlock = some gg ∨ gg = wn.heap.size) :
    CrewAt w w' g sv vm (.slice (some ⟨gg, 0, none⟩) (k + 1) cap) M (S ++ [z]) zs t := by
  subst hk
  have hO : Only (fun k => vs.ownBlock = some k) wn w' := (Only.refl _ wn).grown hg (fun k e _ => e)
  have hon : Only (fun _ => False) w w' := h.only.trans' hO (fun i hi hp => by have := own_low' h.sec hp; have := h.low; omega)
  have hgb : (Value.slice (some ⟨gg, 0, none⟩) (S.length + 1) cap).ownBlock = some gg := rfl
  refine ⟨⟨(hO.block g (Array.getElem?_eq_some_iff.1 h.num.blk).1 (fun e => by have := own_low' h.sec e; omega)).trans h.num.blk, h.pts.only hon, h.num.far⟩, hO.owns h.mem (fun k hp hq => h.ne k hp hq), ?_, ?_, h.low, h.pts, hon⟩
  · rw [List.length_append, List.length_singleton, irow_append]; exact hown
  · intro k hk hq
    rw [hgb] at hq
    obtain rfl : gg = k := by simpa using hq
    rcases hat with hat | hat
    · exact h.ne gg hk hat
    · have := (own_lt h.mem hk).1; omega
theorem own_lt0 {w : World} {g : Nat} {o : Obj} (h : w.heap[g]? = some o) : g < w.heap.size := (Array.getElem?_eq_some_iff.1 h).1
theorem three_int (a b c : Int) : ∀ u ∈ [Value.int .i64 a, .int .i64 b, .int .i64 c], u.oneCell' = true := by
  intro u hu
  simp at hu
  rcases hu with rfl | rfl | rfl <;> rfl
def CrewPost (w : World) (zs : List Int) (first : Nat) (e : Ending) (w' : World) : Prop := Only (fun _ => False) w w' ∧ ∃ vm vs, e = .returned (.tuple #[vm, vs]) ∧ MbsAt w' vm (crewTo zs first (manyZ zs)) ∧ PtsAt w'.heap.size w' vs (secTo first (manyZ zs))

set_option maxRecDepth 100000 in
set_option maxHeartbeats 2000000 in
theorem rcrew_any (sv : Value) (zs : List Int) (first : Nat) (w : World) (hI : PtsAt w.heap.size w sv zs) (hf : first ≤ 1000) (hlen : zs.length ≤ 9223372036854775807) :
    Calls Tryz.prog 16 #[sv, .int .i64 first] w (CrewPost w zs first) := by
  obtain ⟨i0, hi0, hz0, hz1, hz2⟩ := info_parts Tryz.infoI
  obtain ⟨j0, hj0, hy0, hy1, hy2⟩ := info_parts Tryz.infoM
  obtain ⟨a, c, rfl⟩ := hI.slice
  have HN0 := Lib.hid (show NumAt (w.alloc (.cells #[.slice a zs.length c, .int .i64 0] 83)) w.heap.size (.slice a zs.length c) zs 0 from ⟨by rw [Nat.zero_min]; exact heap_alloc_last w _, hI.only ((Only.refl _ w).alloc _), fun hp ad n c' h => by
    rcases hI with ⟨_, _, _, h2⟩ | ⟨b, off, cap, h1, hb, _⟩
    · rw [h2] at hp; simp at hp
    · simp only [Value.slice.injEq] at h h1
      rw [h1.1] at h
      have : ad = ⟨b, off, none⟩ := by simpa using h.1.symm
      rw [this]; show b ≠ _; omega⟩)
  have HI := Lib.hid hI
  obtain ⟨m0, m1⟩ := nxT_bd zs 0 4 (by decide)
  have HMA := Lib.hid (show ((manyZ zs : Nat) : Int) = 1 + nxT zs 0 4 by unfold manyZ; omega)
  have hmz : manyZ zs ≤ 4 := by have := HMA.out; omega
  have HO0 := Lib.hid ((Only.refl (fun _ => False) w).alloc (.cells #[.slice a zs.length c, .int .i64 0] 83))
  clear hI
  go_enter Tryz.func16, Tryz.ntmps16
  go_wp2_with fail
  refine (rnext_any w.heap.size _ zs 0 4 _ HN0.out (by decide) (by decide) hlen).mono ?_
  rintro e w1 ⟨rfl, hN1, hO1⟩
  have HC0 := Lib.hid (show CrewAt w w1 w.heap.size (.slice a zs.length c) (.slice none 0 0) (.slice none 0 0) [] [] zs 1 from ⟨hN1, World.ownsRow_nil _ _ _ _, World.ownsRow_nil _ _ _ _, fun k h => by simp [Value.ownBlock] at h, Nat.le_refl _, HI.out, HO0.out.trans' hO1 (fun i hi e => by omega)⟩)
  clear hN1 hO1 HN0 HO0
  generalize nxT zs 0 4 = mz at *
  obtain ⟨many, hmany⟩ : ∃ many, manyZ zs = many := ⟨_, rfl⟩
  rw [hmany] at HMA hmz
  have HMN := Lib.hid hmany
  clear hmany
  obtain ⟨g, hg⟩ : ∃ g, w.heap.size = g := ⟨_, rfl⟩
  rw [hg] at HC0 ⊢
  clear hg
  go_wp2_with fail
  rw [← HMA.out]
  go_loopw [8, 9, 10] (fun vm vs vi wr => ∃ k : Nat, k ≤ many ∧ vi = .int .i64 k ∧ CrewAt w wr g (.slice a zs.length c) vm vs (crewTo zs first k) (secTo first k) zs (1 + k)) (fun _ _ vi _ => many - (intOf vi).toNat)
  case atStart => exact ⟨0, Nat.zero_le _, rfl, HC0.out⟩
  case round =>
    clear HC0
    obtain ⟨k, hk, rfl, hC⟩ := hrel
    have HC := Lib.hid hC
    by_cases hlt : k < many
    · have HT := Lib.hid (fun w => rtext8_any (first + k) w (by omega))
      have s1 := decB_size (n := first + k) (by omega)
      have HKY := Lib.hid (fun w => rkey_any (memS (first + k)) w (by unfold memS; rw [ByteArray.size_append]; show 7 + _ ≤ _; omega))
      have HCN := Lib.hid (show crewTo zs first (k + 1) = crewTo zs first k ++ [⟨first + k, 1 + nxT zs (1 + k) 3, keyP (memS (first + k))⟩] from rfl)
      have HSN := Lib.hid (show secTo first (k + 1) = secTo first k ++ [keyS (memS (first + k))] from rfl)
      have HCL := Lib.hid (crewTo_len zs first k)
      have HSL := Lib.hid (secTo_len first k)
      obtain ⟨x0, x1⟩ := nxT_bd zs (1 + k) 3 (by decide)
      unfold memS at HKY
      have HMS := Lib.hid (show memS (first + k) = (⟨#[109, 101, 109, 98, 101, 114, 32]⟩ : ByteArray) ++ decB (first + k) from rfl)
      rw [HMS.out] at HCN HSN
      generalize decB (first + k) = dn at *
      generalize keyP _ = kp at HKY HCN
      generalize keyS _ = ksz at HKY HSN
      generalize hM : crewTo zs first k = M at *
      generalize hS : secTo first k = S at *
      clear hM hS HMS
      obtain ⟨am, cm, rfl⟩ := slice_of_own hC.mem
      obtain ⟨asc, csc, rfl⟩ := slice_of_own hC.sec
      have hcast : ((first + k : Nat) : Int) = (first : Int) + k := by omega
      rw [hcast] at HT
      have i1 : (k : Int) < many := by omega
      clear hC hcast
      go_wp2_with fail
      refine (HT.out _).mono ?_
      rintro e w1 ⟨rfl, hO1⟩
      have HC1 := Lib.hid (HC.out.frame hO1)
      clear hO1 HC HT
      go_wp2_with fail
      refine (HKY.out _).mono ?_
      rintro e w2 ⟨rfl, hO2⟩
      have HC2 := Lib.hid (HC1.out.frame hO2)
      clear hO2 HC1 HKY
      go_wp2_with fail
      refine (rnext_any g _ zs (1 + k) 3 _ HC2.out.num (by decide) (by decide) hlen).mono ?_
      rintro e w3 ⟨rfl, hN3, hO3⟩
      have HC3 := Lib.hid (HC2.out.next hN3 hO3)
      clear hN3 hO3 HC2
      generalize nxT zs (1 + k) 3 = nx at *
      have HC4 := Lib.hid (HC3.out.frame ((Only.refl (fun _ => False) w3).alloc (.cells #[.int .i64 ((first : Int) + k), .int .i64 (1 + nx), .int .i64 kp] 68)))
      have hown4 := HC4.out.mem
      have hsz3 := HC3.out.only.size
      have hlowg := (own_lt0 HC3.out.num.blk)
      rw [HCL.out] at hown4 ⊢
      rw [HSL.out]
      go_wp2_with (at_builtin; refine wpList_append_lies _ rfl _ _ 25 rfl (g + 1) 68 j0 _ 3 24 Tryz.underlying25 hj0 hy0 hy1 hy2 rfl (by decide) _ k (mrow M) rfl hown4 ⟨w3.heap.size, 0, none⟩ 1 1 [.int .i64 ((first : Int) + k), .int .i64 (1 + nx), .int .i64 kp] rfl rfl (World.news_of_block (cs := #[.int .i64 ((first : Int) + k), .int .i64 (1 + nx), .int .i64 kp]) (t := 68) (fr := (0, 0)) (heap_alloc_new w3 _)) (three_int _ _ _) (by decide) ?c1 ?c2 ?c3 _ rfl ?_)
      case c1 => unfold maxLen; omega
      case c2 => omega
      case c3 => first | omega | (simp; omega)
      intro g1 cp1 w5 ho5 hg5 ha5 hgl5
      have HC5 := Lib.hid (HC4.out.mem1 (m := ⟨(first : Int) + k, 1 + nx, kp⟩) HCL.out ho5 (by rw [HCL.out]; exact hg5) (by rw [World.size_alloc, HCL.out]; exact ha5))
      rw [← HCN.out] at HC5
      have HC6 := Lib.hid (HC5.out.frame ((Only.refl (fun _ => False) w5).alloc (.cells #[.int .i64 ksz] 3)))
      have hown6 := HC6.out.sec
      have hsz5 := HC5.out.only.size
      have hlow5 := (own_lt0 HC5.out.num.blk)
      rw [HSL.out] at hown6
      clear ho5 hg5 ha5 hgl5 hown4 HC4 HC3 hsz3 hlowg
      go_wp2_with (at_builtin; refine wpList_append_lies _ rfl _ _ 22 rfl (g + 1) 3 i0 _ 1 8 Tryz.underlying22 hi0 hz0 hz1 hz2 rfl (by decide) _ k (irow S) rfl hown6 ⟨w5.heap.size, 0, none⟩ 1 1 [.int .i64 ksz] rfl rfl (cell_one_new _ _ _) (one_int _) (by decide) ?d1 ?d2 ?d3 _ rfl ?_)
      case d1 => unfold maxLen; omega
      case d2 => omega
      case d3 => first | omega | (simp; omega)
      intro g2 cp2 w7 ho7 hg7 ha7 hgl7
      have HC7 := Lib.hid (HC6.out.sec1 HSL.out ho7 (by rw [HSL.out]; exact hg7) (by rw [World.size_alloc, HSL.out]; exact ha7))
      rw [← HSN.out] at HC7
      clear ho7 hg7 ha7 hgl7 hown6 HC5 HC6
      go_wp2
      go_roundw
      case rel => exact ⟨k + 1, by omega, by go_num, by rw [show 1 + (k + 1) = 1 + k + 1 by omega]; exact HC7.out⟩
      case measure => simp [intOf]; omega
    · obtain rfl : k = many := by omega
      have i1 : ¬ (k : Int) < k := by omega
      have HR := Lib.hid (show CrewPost w zs first (.returned (.tuple #[u8, u9])) wr from ⟨hC.only, u8, u9, rfl, by rw [HMN.out]; exact mbs_of_own hC.mem, by rw [HMN.out]; exact pts_of_own hC.sec (by rw [secTo_len]; omega)⟩)
      obtain ⟨am, cm, rfl⟩ := slice_of_own hC.mem
      obtain ⟨asc, csc, rfl⟩ := slice_of_own hC.sec
      clear hC hlt hk
      go_wp2
      go_ret2
      exact HR.out
end Go.Proofs.YtalclldccnichaaGreat

namespace Go.Proofs.YtalclldccnichaaGreat
open Go.RowKit

def dlSeed (seed : ByteArray) (id : Nat) : ByteArray := seed ++ ⟨#[32]⟩ ++ decB id
def dlOf (l : List Mb) (seed : ByteArray) (nd k : Nat) : Dl := dealZ (polyTo (dlSeed seed (mbAt l k).id.toNat) nd) (boxTo l l.length) (dlSeed seed (mbAt l k).id.toNat)
def dlsTo (l : List Mb) (seed : ByteArray) (nd : Nat) : Nat → List Dl
  | 0 => []
  | k + 1 => dlsTo l seed nd k ++ [dlOf l seed nd k]
theorem dlsTo_len (l : List Mb) (seed : ByteArray) (nd : Nat) : ∀ k, (dlsTo l seed nd k).length = k
  | 0 => rfl
  | k + 1 => by rw [dlsTo, List.length_append, dlsTo_len l seed nd k]; rfl
theorem Tryz.infoDl : (Tryz.prog.info? 72).map (fun i => (i.zero, i.size, i.bytes)) = some (some (.agg #[.slice none 0 0, .int .i64 0, .slice none 0 0]), 3, 56) := by kernel_rfl
/-- Members that are right, with ids that are small, and keys that are members. -/
structure CrewOk (l : List Mb) (nd : Nat) : Prop where
  w : MbsW l
  len1 : 1 ≤ l.length
  len2 : l.length ≤ 13
  id : ∀ j, j < l.length → 0 ≤ (mbAt l j).id ∧ (mbAt l j).id ≤ 2000
  wt : ∀ j, 0 ≤ (mbAt l j).wt ∧ (mbAt l j).wt ≤ 20
  box : membersB (boxTo l l.length) = true
  many : (boxTo l l.length).length ≤ 60
  ndz : needZ (totZ l) = nd
  nd1 : 1 ≤ nd
  nd2 : nd ≤ (boxTo l l.length).length
  tot : totZ l ≤ 1000000
/-- The cells of dealings, one behind the other. -/
def rowD (qs : List (Value × Dl × Value)) : List Value := qs.flatMap fun q => [q.1, .int .i64 q.2.1.pt, q.2.2]
theorem rowD_append (a : List (Value × Dl × Value)) (q : Value × Dl × Value) : rowD (a ++ [q]) = rowD a ++ [q.1, .int .i64 q.2.1.pt, q.2.2] := by simp [rowD]
structure DsAt (w wr : World) (v : Value) (qs : List (Value × Dl × Value)) : Prop where
  own : wr.ownsRow w.heap.size 72 3 v qs.length (rowD qs)
  each : ∀ q ∈ qs, DlOwn w.heap.size wr q.1 q.2.2 q.2.1
  ne : ∀ q ∈ qs, ∀ k, v.ownBlock = some k → q.1.ownBlock ≠ some k ∧ q.2.2.ownBlock ≠ some k
  only : Only (fun _ => False) w wr
theorem DsAt.nil (w : World) : DsAt w w (.slice none 0 0) [] := ⟨World.ownsRow_nil _ _ _ _, (fun _ h => absurd h List.not_mem_nil), (fun _ h => absurd h List.not_mem_nil), Only.refl _ _⟩
theorem DsAt.frame {w wr w' : World} {v : Value} {qs : List (Value × Dl × Value)} (h : DsAt w wr v qs) (hO : Only (fun _ => False) wr w') : DsAt w w' v qs :=
  ⟨hO.owns h.own (fun _ _ h => h), fun q hq => ⟨hO.owns (h.each q hq).cm (fun _ _ h => h), hO.owns (h.each q hq).bx (fun _ _ h => h)⟩, h.ne, h.only.trans hO⟩
theorem DsAt.add {w wn w' : World} {v : Value} {qs : List (Value × Dl × Value)} (h : DsAt w wn v qs) {q : Value × Dl × Value} {gg cap k : Nat} (hk : qs.length = k) (hq : DlOwn w.heap.size wn q.1 q.2.2 q.2.1)
    (hn : ∀ k, v.ownBlock = some k → q.1.ownBlock ≠ some k ∧ q.2.2.ownBlock ≠ some k)
    (hown : w'.ownsRow w.heap.size 72 3 (.slice (some ⟨gg, 0, none⟩) (k + 1) cap) (k + 1) (rowD qs ++ [q.1, .int .i64 q.2.1.pt, q.2.2])) (hg : wn.grownBy w' v.ownBlock) (hat : v.ownBlock = some gg ∨ gg = wn.heap.size) :
    DsAt w w' (.slice (some ⟨gg, 0, none⟩) (k + 1) cap) (qs ++ [q]) := by
  subst hk
  have hO : Only (fun k => v.ownBlock = some k) wn w' := (Only.refl _ wn).grown hg (fun k e _ => e)
  have hgb : (Value.slice (some ⟨gg, 0, none⟩) (qs.length + 1) cap).ownBlock = some gg := rfl
  have hall : ∀ q' ∈ qs ++ [q], DlOwn w.heap.size wn q'.1 q'.2.2 q'.2.1 ∧ ∀ k, v.ownBlock = some k → q'.1.ownBlock ≠ some k ∧ q'.2.2.ownBlock ≠ some k := by
    intro q' hm
    rcases List.mem_append.1 hm with hm | hm
    · exact ⟨h.each q' hm, h.ne q' hm⟩
    · rw [List.mem_singleton.1 hm]; exact ⟨hq, hn⟩
  refine ⟨?_, fun q' hm => ?_, fun q' hm k hk => ?_, h.only.trans' hO (fun i hi hp => by have := own_low' h.own hp; omega)⟩
  · rw [List.length_append, List.length_singleton, rowD_append]; exact hown
  · obtain ⟨a1, a2⟩ := hall q' hm
    exact ⟨hO.owns a1.cm (fun k hp hq => (a2 k hq).1 hp), hO.owns a1.bx (fun k hp hq => (a2 k hq).2 hp)⟩
  · obtain ⟨a1, a2⟩ := hall q' hm
    rw [hgb] at hk
    obtain rfl : gg = k := by simpa using hk
    rcases hat with hat | hat
    · exact a2 gg hat
    · exact ⟨fun e => by have := (own_lt a1.cm e).1; omega, fun e => by have := (own_lt a1.bx e).1; omega⟩
def DlS (b o : Nat) (x : Int) (w3 w' : World) : Prop := w'.cell? ⟨b, o, none⟩ = some (.int .i64 x) ∧ Only (fun _ => False) w3 w'
theorem dlS_only {b o : Nat} {x : Int} {w3 A B : World} (hO : Only (fun _ => False) A B) (h : A.cell? ⟨b, o, none⟩ = some (.int .i64 x) ∧ Only (fun _ => False) w3 A) : B.cell? ⟨b, o, none⟩ = some (.int .i64 x) ∧ Only (fun _ => False) w3 B := ⟨hO.cell h.1 id, h.2.trans hO⟩
theorem dl_blk {A B : World} {o : Obj} (hO : Only (fun _ => False) (A.alloc o) B) : B.heap[A.heap.size]? = some o := by
  rw [hO.block A.heap.size (by simp) id]; exact heap_alloc_last A o
theorem step_store_row {P : Program} {w : World} {ops : Array Oper} {o : Oper} {a : Act} {K : Act → World → Prop} {Q : Exit → Act → World → Prop} {E : Prop} (hgd : o.guard = none) (ty : TypeId) (x y : Operand) (ho : o.op = .store ty x y)
    (g : Nat) (cells : Array Value) (hx : a.eval x = .pointer (some ⟨g, 0, none⟩)) (hy : a.eval y = .agg cells)
    (t : TypeId) (old : Array Value) (hg : w.heap[g]? = some (.cells old t (0, 0))) (hi : (P.info? ty).map (·.size) = some cells.size)
    (hold : old.size = cells.size) (h1 : cells.all (·.oneCell') = true)
    (h : K (a.put o.dst undef) (w.setRow g cells)) : if Region.wanted o (yielded ops a.tmps) = true then Oper.wp P o a w K Q else E := by
  have hw : Region.wanted o (yielded ops a.tmps) = true := by simp [Region.wanted, hgd]
  rw [if_pos hw]
  exact wp_store_row ty x y ho g cells hx hy t old hg hi hold h1 h
theorem dl_row {a w : World} {g : Nat} {cs : Array Value} (h : Only (fun _ => False) a w) (hg : a.heap.size ≤ g) : Only (fun _ => False) a (w.setRow g cs) :=
  h.trans' (T := fun k => k = g) ⟨rfl, rfl, rfl, by simp [World.setRow], fun k _ hk => heap_setRow_other w g k cs hk⟩ (fun i hi e => by omega)
theorem dl_blk2 {A B : World} {o : Obj} (hO : Only (fun _ => False) (A.alloc o).drew B) : B.heap[A.heap.size]? = some o := by
  rw [hO.block A.heap.size (by show _ < (A.alloc o).heap.size; simp) id]; exact heap_alloc_last A o
def DlMid (wr wx : World) (d : Dl) (v8 : Value) : Prop := ∃ Bd c0 c2, v8 = .pointer (some ⟨Bd, 0, none⟩) ∧ wx.heap[Bd]? = some (.cells #[c0, .int .i64 d.pt, c2] 72 (0, 0)) ∧ DlOwn wr.heap.size wx c0 c2 d ∧ Only (fun _ => False) wr wx
theorem dl_end1 {wr wD : World} {n : Nat} {c0 c2 : Value} {d : Dl} (h : DlOwn n wD c0 c2 d) (hn : wr.heap.size ≤ n) (hO : Only (fun _ => False) wr wD) :
    DlMid wr (wD.alloc (.cells #[c0, .int .i64 d.pt, c2] 72)) d (.pointer (some ⟨wD.heap.size, 0, none⟩)) :=
  have hA : Only (fun _ => False) wD (wD.alloc (.cells #[c0, .int .i64 d.pt, c2] 72)) := (Only.refl _ wD).alloc _
  ⟨_, c0, c2, rfl, heap_alloc_last wD _, ⟨hA.owns (own_base h.cm hn) (fun _ _ h => h), hA.owns (own_base h.bx hn) (fun _ _ h => h)⟩, hO.trans hA⟩
theorem dl_end2 {wr wD : World} {n g : Nat} {c0 c2 x y z : Value} {d : Dl} (hB : wD.heap[g]? = some (.cells #[x, y, z] 72 (0, 0))) (h : DlOwn n wD c0 c2 d) (hgn : g < n) (hn : wr.heap.size ≤ n) (hgr : wr.heap.size ≤ g) (hO : Only (fun _ => False) wr wD) :
    DlMid wr (((wD.setCell ⟨g, 0, none⟩ c0).setCell ⟨g, 1, none⟩ (.int .i64 d.pt)).setCell ⟨g, 2, none⟩ c2) d (.pointer (some ⟨g, 0, none⟩)) := by
  have hA : Only (fun k => k = g) wD (((wD.setCell ⟨g, 0, none⟩ c0).setCell ⟨g, 1, none⟩ (.int .i64 d.pt)).setCell ⟨g, 2, none⟩ c2) := (((Only.refl (fun k => k = g) wD).setCell (p := ⟨g, 0, none⟩) (.inl rfl) c0).setCell (p := ⟨g, 1, none⟩) (.inl rfl) (.int .i64 d.pt)).setCell (p := ⟨g, 2, none⟩) (.inl rfl) c2
  refine ⟨g, c0, c2, rfl, ?_, ⟨hA.owns (own_base h.cm hn) (fun k hk e => ?_), hA.owns (own_base h.bx hn) (fun k hk e => ?_)⟩, hO.trans' hA (fun i hi e => by omega)⟩
  · exact heap_setCell_same _ g 2 _ _ _ (heap_setCell_same _ g 1 _ _ _ (heap_setCell_same _ g 0 _ _ _ hB))
  · have := own_low' h.cm hk; omega
  · have := own_low' h.bx hk; omega
def DealsPost (w : World) (ds : List Dl) (e : Ending) (w' : World) : Prop := ∃ v qs, e = .returned v ∧ DsAt w w' v qs ∧ qs.map (·.2.1) = ds

set_option maxRecDepth 100000 in
set_option maxHeartbeats 1000000 in
theorem rdealings_some (b off cap : Nat) (l : List Mb) (seed : ByteArray) (nd : Nat) (w : World) (hb : b < w.heap.size) (hcap : l.length ≤ cap) (hcap2 : cap ≤ 9223372036854775807) (hok : CrewOk l nd) (hs : seed.size ≤ 1000)
    (hc : ∀ j, j < l.length → w.cell? ⟨b, off + j * 3, none⟩ = some (.int .i64 (mbAt l j).id) ∧ w.cell? ⟨b, off + j * 3 + 1, none⟩ = some (.int .i64 (mbAt l j).wt) ∧ w.cell? ⟨b, off + j * 3 + 2, none⟩ = some (.int .i64 (mbAt l j).pb)) :
    Calls Tryz.prog 8 #[.slice (some ⟨b, off, none⟩) l.length cap, .string seed] w (DealsPost w (dlsTo l seed nd l.length)) := by
  obtain ⟨j0, hj0, hy0, hy1, hy2⟩ := info_parts Tryz.infoDl
  have HC := Lib.hid hc
  have HK := Lib.hid hok
  clear hc hok
  go_enter Tryz.func8, Tryz.ntmps8
  go_wp2_with fail
  go_loopw [5, 6] (fun vo vi wr => ∃ k : Nat, k ≤ l.length ∧ vi = .int .i64 k ∧ ∃ qs, DsAt w wr vo qs ∧ qs.map (·.2.1) = dlsTo l seed nd k) (fun _ vi _ => l.length - (intOf vi).toNat)
  case atStart => exact ⟨0, Nat.zero_le _, rfl, [], DsAt.nil w, rfl⟩
  case round =>
    obtain ⟨k, hk, rfl, qs, hD, hq⟩ := hrel
    have HD := Lib.hid hD
    by_cases hlt : k < l.length
    · have e0 := hD.only.cell (HC.out k hlt).1 id
      have HCL := Lib.hid (fun (w' : World) (hO : Only (fun _ => False) wr w') j hj => (⟨hO.cell (hD.only.cell (HC.out j hj).1 id) id, hO.cell (hD.only.cell (HC.out j hj).2.1 id) id, hO.cell (hD.only.cell (HC.out j hj).2.2 id) id⟩ : w'.cell? ⟨b, off + j * 3, none⟩ = some (.int .i64 (mbAt l j).id) ∧ w'.cell? ⟨b, off + j * 3 + 1, none⟩ = some (.int .i64 (mbAt l j).wt) ∧ w'.cell? ⟨b, off + j * 3 + 2, none⟩ = some (.int .i64 (mbAt l j).pb)))
      obtain ⟨id0, id1⟩ := HK.out.id k hlt
      have HL := Lib.hid (show dlOf l seed nd k = dealZ (polyTo (dlSeed seed (mbAt l k).id.toNat) nd) (boxTo l l.length) (dlSeed seed (mbAt l k).id.toNat) from rfl)
      have HDN := Lib.hid (show dlsTo l seed nd (k + 1) = dlsTo l seed nd k ++ [dlOf l seed nd k] from rfl)
      obtain ⟨idn, hidn⟩ : ∃ idn : Nat, (mbAt l k).id = idn := ⟨(mbAt l k).id.toNat, by omega⟩
      have hid2 : idn < 9223372036854775808 := by omega
      have HSZ := Lib.hid (decB_size hid2)
      have HSS := Lib.hid (show seed ++ ⟨#[32]⟩ ++ decB idn = dlSeed seed idn from rfl)
      have HSSZ := Lib.hid (show (dlSeed seed idn).size ≤ 100000 by unfold dlSeed; rw [ByteArray.size_append, ByteArray.size_append]; have := HSZ.out; show _ + 1 + _ ≤ _; omega)
      rw [hidn] at e0 HL
      rw [Int.toNat_natCast] at HL
      have s1 : (decB idn).size ≤ 21 := HSZ.out
      generalize hdn : decB idn = dn at HSS s1
      generalize dlSeed seed idn = ss at *
      obtain ⟨av, cv, rfl⟩ := slice_of_own hD.own
      clear hD id0 id1 hidn
      have i1 : (k : Int) < l.length := by omega
      go_wp2_with fail
      refine (rtext8_any idn wr hid2).mono ?_
      rintro e w1 ⟨rfl, hO1⟩
      have HO1 := Lib.hid hO1
      rw [hdn]
      clear hO1
      go_wp2_with fail
      refine (rtotal_some b off cap l (totZ l) w1 HK.out.w (by have := HO1.out.size; have := HD.out.only.size; omega) hcap hcap2 rfl (HCL.out w1 HO1.out)).mono ?_
      rintro e w2 ⟨rfl, hO2⟩
      have HO2 := Lib.hid (HO1.out.trans hO2)
      clear hO2 HO1
      go_wp2_with fail
      refine (rneed_is (totZ l) nd w2 HK.out.tot HK.out.ndz).mono ?_
      rintro e w2' ⟨rfl, rfl⟩
      go_wp2_with fail
      rw [HSS.out]
      have hnd : nd ≤ 60 := Nat.le_trans HK.out.nd2 HK.out.many
      refine (rpoly_any ss nd w2 HSSZ.out (by omega)).mono ?_
      rintro e w3 ⟨v, rfl, hown3, hO3⟩
      have HO3 := Lib.hid (HO2.out.trans hO3)
      have HOW3 := Lib.hid hown3
      clear hO3 HO2 hown3
      have HTX := Lib.hid (show ∀ w', DlS b (off + k * 3) idn w3 w' → Calls Tryz.prog 21 #[.int .i64 idn] w' (fun e wT => (e = .returned (.string dn) ∧ Only (fun _ => False) w' wT) ∧ Only (fun _ => False) w3 wT) from fun w' h => (rtext8_any idn w' hid2).mono fun e wT hh => ⟨⟨by rw [← hdn]; exact hh.1, hh.2⟩, h.2.trans hh.2⟩)
      have hs3 : b < w3.heap.size := by have := HO3.out.size; have := HD.out.only.size; omega
      go_wp2_with fail
      have HSS0 : ∀ x, seed ++ ⟨#[32]⟩ ++ dn = x → ss = x := fun x h => HSS.out.symm.trans h
      have c3 : w3.cell? ⟨b, off + k * 3, none⟩ = some (.int .i64 idn) := HO3.out.cell e0 id
      have HBX := Lib.hid (show ∀ w', DlS b (off + k * 3) idn w3 w' → Calls Tryz.prog 38 #[.slice (some ⟨b, off, none⟩) l.length cap] w' (fun e wB => ListPost w' (boxTo l l.length) e wB ∧ Only (fun _ => False) w3 wB) from fun w' h => (rboxes_some b off cap l w' (by have := h.2.size; omega) hcap hcap2 HK.out.len2 HK.out.wt (HCL.out w' (HO3.out.trans h.2))).mono fun e wB hh => ⟨hh, h.2.trans hh.choose_spec.2.2⟩)
      have HDL := Lib.hid (show ∀ wB vB w' n, wB.ownsRow n 3 1 vB (boxTo l l.length).length (irow (boxTo l l.length)) → Only (fun _ => False) wB w' → DlS b (off + k * 3) idn w3 w' → Calls Tryz.prog 37 #[v, vB, .string (seed ++ ⟨#[32]⟩ ++ dn)] w' (fun e wD => DealPost w' (dlOf l seed nd k) e wD ∧ Only (fun _ => False) w3 wD) from fun wB vB w' n h1 h2 h3 => by
        rw [HL.out, HSS.out]
        have hm := HK.out.many
        have hn1 := HK.out.nd1
        have hn2 := HK.out.nd2
        exact (rdeal_yes v vB _ _ ss w' ((pts_of_own HOW3.out (by rw [polyTo_len]; omega)).only h3.2) ((pts_of_own h1 (by omega)).only h2) (by rw [polyTo_len]; omega) (by rw [polyTo_len]; omega) hm HK.out.box (fun j _ => polyTo_bd ss nd j) HSSZ.out).mono fun e wD hh => ⟨hh, h3.2.trans hh.1⟩)
      go_cut [8] (fun v8 wx => DlMid wr wx (dlOf l seed nd k) v8)
      case first =>
        clear HSS0
        have HKS := Lib.hid (show ∀ W, Only (fun _ => False) w3 W → W.cell? ⟨b, off + k * 3, none⟩ = some (.int .i64 idn) ∧ Only (fun _ => False) w3 W from fun W h => ⟨h.cell c3 id, h⟩)
        have hz1 : (seed ++ (⟨#[32]⟩ : ByteArray)).size = seed.size + 1 := by rw [ByteArray.size_append]; rfl
        have hz3 : (⟨#[32]⟩ : ByteArray).size = 1 := rfl
        have p1 : ¬ seed.size + 1 > 9223372036854775807 := by omega
        have p2 : ¬ 9223372036854775807 < seed.size + 1 := by omega
        have p3 : ¬ 9223372036854775807 ≤ seed.size := by omega
        have p4 : seed.size < 9223372036854775807 := by omega
        have p4' : seed.size ≤ 9223372036854775806 := by omega
        have p4'' : ¬ 9223372036854775806 < seed.size := by omega
        have q1 : ¬ seed.size + 1 + dn.size > 9223372036854775807 := by omega
        have q2 : ¬ 9223372036854775807 < seed.size + 1 + dn.size := by omega
        have q3 : ¬ (seed ++ (⟨#[32]⟩ : ByteArray)).size + dn.size > 9223372036854775807 := by omega
        have q4 : ¬ seed.size + (⟨#[32]⟩ : ByteArray).size > 9223372036854775807 := by omega
        go_region_held3 (fun w' => w'.cell? ⟨b, off + k * 3, none⟩ = some (.int .i64 idn) ∧ Only (fun _ => False) w3 w')
          (first
            | with_reducible exact HKS.out _ ((Only.refl _ w3).drew)
            | with_reducible exact HKS.out _ hSB
            | with_reducible exact HKS.out _ hST
            | with_reducible exact HKS.out _ hSD
            | with_reducible exact HKS.out _ (hSD.alloc _)
            | with_reducible exact HKS.out _ (hSB.alloc _)
            | with_reducible exact HKS.out _ (hST.alloc _)
            | with_reducible exact HKS.out _ ((Only.refl _ w3).drew.alloc _)
            | with_reducible exact HKS.out _ (((hSD.setCell (.inr hge) _).setCell (.inr hge) _).setCell (.inr hge) _))
          (first
            | (go_at_call 38; refine (HBX.out _ (by assumption)).mono ?_; rintro e wB ⟨⟨vB, rfl, hownB, hOB⟩, hSB⟩)
            | (go_at_call 21; refine (HTX.out _ (by assumption)).mono ?_; rintro e wT ⟨⟨rfl, hOT⟩, hST⟩)
            | (go_at_call 37; refine (HDL.out _ _ _ _ hownB (by first | exact hOT | exact hOT.alloc _ | exact ((Only.refl _ _).alloc _).trans hOT) (by assumption)).mono ?_; rintro e wD ⟨⟨hOD, x0, x2, rfl, hDl⟩, hSD⟩; obtain ⟨a0, n0, rfl⟩ := slice_of_own hDl.cm; obtain ⟨a2, n2, rfl⟩ := slice_of_own hDl.bx
               first
                 | (have hBk := dl_blk hOD; have hge := hST.size; have b0 := cell_of_row _ _ 0 _ _ _ hBk; have b1 := cell_of_row _ _ 1 _ _ _ hBk; have b2 := cell_of_row _ _ 2 _ _ _ hBk; have f0 := frozen_of_row _ _ 0 _ _ hBk; have f1 := frozen_of_row _ _ 1 _ _ hBk; have f2 := frozen_of_row _ _ 2 _ _ hBk; have lB := (Array.getElem?_eq_some_iff.1 hBk).1)
                 | (have hBk := dl_blk (hOT.trans hOD); have hge := hSB.size; have b0 := cell_of_row _ _ 0 _ _ _ hBk; have b1 := cell_of_row _ _ 1 _ _ _ hBk; have b2 := cell_of_row _ _ 2 _ _ _ hBk; have f0 := frozen_of_row _ _ 0 _ _ hBk; have f1 := frozen_of_row _ _ 1 _ _ hBk; have f2 := frozen_of_row _ _ 2 _ _ hBk; have lB := (Array.getElem?_eq_some_iff.1 hBk).1)
                 | (have hBk := dl_blk ((hOB.trans hOT).trans hOD); have hge := Nat.le_refl w3.heap.size; have b0 := cell_of_row _ _ 0 _ _ _ hBk; have b1 := cell_of_row _ _ 1 _ _ _ hBk; have b2 := cell_of_row _ _ 2 _ _ _ hBk; have f0 := frozen_of_row _ _ 0 _ _ hBk; have f1 := frozen_of_row _ _ 1 _ _ hBk; have f2 := frozen_of_row _ _ 2 _ _ hBk; have lB := (Array.getElem?_eq_some_iff.1 hBk).1)
                 | (have hBk := dl_blk2 ((hOB.trans hOT).trans hOD); have hge := Nat.le_refl w3.heap.size; have b0 := cell_of_row _ _ 0 _ _ _ hBk; have b1 := cell_of_row _ _ 1 _ _ _ hBk; have b2 := cell_of_row _ _ 2 _ _ _ hBk; have f0 := frozen_of_row _ _ 0 _ _ hBk; have f1 := frozen_of_row _ _ 1 _ _ hBk; have f2 := frozen_of_row _ _ 2 _ _ hBk; have lB := (Array.getElem?_eq_some_iff.1 hBk).1)
                 | skip))
        all_goals (clear HBX HTX HDL HKS hz1 hz3 p1 p2 p3 p4 p4' p4'' q1 q2 q3 q4)
        all_goals (go_wp2_with fail)
        all_goals (go_meet)
        all_goals first
          | exact dl_end1 hDl (by have := HO3.out.size; have := hST.size; omega) (HO3.out.trans hSD)
          | exact dl_end2 hBk hDl (by first | (rw [World.size_alloc]; omega) | (have h2 := hOT.size; rw [World.size_alloc] at h2; omega) | (have h1 : w3.heap.size + 1 ≤ wB.heap.size := by { have := hOB.size; simpa using this }; have h2 := hOT.size; omega)) (by have := HO3.out.size; have := hST.size; first | omega | (rw [World.size_alloc]; omega)) (by have := HO3.out.size; omega) (HO3.out.trans hSD)
      case rest =>
        obtain ⟨Bd, c0, c2, rfl, hBk, hDl, hOx⟩ := hcut
        have HDX := Lib.hid (HD.out.frame hOx)
        have HDL2 := Lib.hid hDl
        have HBK := Lib.hid hBk
        have hql : qs.length = k := by have := congrArg List.length hq; rw [List.length_map, dlsTo_len] at this; exact this
        have hk13 := HK.out.len2
        obtain ⟨a0, n0, rfl⟩ := slice_of_own hDl.cm
        obtain ⟨a2, n2, rfl⟩ := slice_of_own hDl.bx
        have b0 := cell_of_row _ _ 0 _ _ _ hBk
        have b1 := cell_of_row _ _ 1 _ _ _ hBk
        have b2 := cell_of_row _ _ 2 _ _ _ hBk
        have lB := (Array.getElem?_eq_some_iff.1 hBk).1
        have hsw := HD.out.only.size
        have hsx := hOx.size
        have HNE := Lib.hid (show ∀ j, (Value.slice av qs.length cv).ownBlock = some j → (Value.slice a0 (dlOf l seed nd k).cm.length n0).ownBlock ≠ some j ∧ (Value.slice a2 (dlOf l seed nd k).bx.length n2).ownBlock ≠ some j from fun j hj => ⟨fun e => by have h1 := (own_lt HD.out.own hj).1; have h2 := own_low' hDl.cm e; omega, fun e => by have h1 := (own_lt HD.out.own hj).1; have h2 := own_low' hDl.bx e; omega⟩)
        have HQ := Lib.hid hq
        generalize hdl : dlOf l seed nd k = D at *
        clear hBk hDl hOx HBX HDL HTX HBK hq
        have hA : Only (fun _ => False) wc (wc.alloc (.cells #[.slice a0 D.cm.length n0, .int .i64 D.pt, .slice a2 D.bx.length n2] 72)) := (Only.refl _ wc).alloc _
        have HD4 := Lib.hid (HDX.out.frame hA)
        have HDL4 := Lib.hid (show DlOwn w.heap.size (wc.alloc (.cells #[.slice a0 D.cm.length n0, .int .i64 D.pt, .slice a2 D.bx.length n2] 72)) (.slice a0 D.cm.length n0) (.slice a2 D.bx.length n2) D from ⟨hA.owns (own_base HDL2.out.cm hsw) (fun _ _ h => h), hA.owns (own_base HDL2.out.bx hsw) (fun _ _ h => h)⟩)
        have hown4 := HD4.out.own
        clear hA
        rw [hql] at hown4 ⊢
        go_wp2_with (at_builtin; refine wpList_append_lies _ rfl _ _ 32 rfl w.heap.size 72 j0 _ 3 56 Tryz.underlying32 hj0 hy0 hy1 hy2 rfl (by decide) _ k (rowD qs) rfl hown4 ⟨wc.heap.size, 0, none⟩ 1 1 [.slice a0 D.cm.length n0, .int .i64 D.pt, .slice a2 D.bx.length n2] rfl rfl (World.news_of_block (cs := #[.slice a0 D.cm.length n0, .int .i64 D.pt, .slice a2 D.bx.length n2]) (t := 72) (fr := (0, 0)) (heap_alloc_new wc _)) (by simp [Value.oneCell']) (by decide) ?c1 ?c2 ?c3 _ rfl ?_)
        case c1 => unfold maxLen; omega
        case c2 => omega
        case c3 => first | omega | (simp; omega)
        intro g1 cp1 w5 ho5 hg5 ha5 hgl5
        have HN := Lib.hid (HD4.out.add (q := (.slice a0 D.cm.length n0, D, .slice a2 D.bx.length n2)) hql HDL4.out HNE.out ho5 (by rw [hql]; exact hg5) (by rw [hql, World.size_alloc]; exact ha5))
        clear ho5 hg5 ha5 hown4
        go_wp2
        go_roundw
        case rel => exact ⟨k + 1, hlt, by go_num, _, HN.out, by rw [List.map_append, HQ.out, HDN.out]; rfl⟩
        case measure => simp [intOf]; omega
    · obtain rfl : k = l.length := by omega
      have i1 : ¬ ((l.length : Nat) : Int) < l.length := by omega
      obtain ⟨av, cv, rfl⟩ := slice_of_own hD.own
      have HQ := Lib.hid hq
      clear hD hq
      go_wp2
      go_ret
      exact ⟨_, qs, rfl, HD.out, HQ.out⟩
end Go.Proofs.YtalclldccnichaaGreat

namespace Go.Proofs.YtalclldccnichaaGreat
open Go.RowKit

theorem rowD_at : ∀ (qs : List (Value × Dl × Value)) (j : Nat) (hj : j < qs.length), (rowD qs)[j * 3]? = some qs[j].1 ∧ (rowD qs)[j * 3 + 1]? = some (.int .i64 qs[j].2.1.pt) ∧ (rowD qs)[j * 3 + 2]? = some qs[j].2.2
  | q :: qs, 0, _ => by simp [rowD]
  | q :: qs, j + 1, hj => by
    have h := rowD_at qs j (by simpa using hj)
    have e : rowD (q :: qs) = [q.1, .int .i64 q.2.1.pt, q.2.2] ++ rowD qs := by simp [rowD]
    rw [e]
    refine ⟨?_, ?_, ?_⟩
    · rw [List.getElem?_append_right (by simp; omega)]; simpa [show (j + 1) * 3 - 3 = j * 3 by omega] using h.1
    · rw [List.getElem?_append_right (by simp; omega)]; simpa [show (j + 1) * 3 + 1 - 3 = j * 3 + 1 by omega] using h.2.1
    · rw [List.getElem?_append_right (by simp; omega)]; simpa [show (j + 1) * 3 + 2 - 3 = j * 3 + 2 by omega] using h.2.2
/-- Dealings in a block, all of it from base on. -/
structure DsOwn (base : Nat) (wr : World) (v : Value) (qs : List (Value × Dl × Value)) : Prop where
  own : wr.ownsRow base 72 3 v qs.length (rowD qs)
  each : ∀ q ∈ qs, DlOwn base wr q.1 q.2.2 q.2.1
theorem DsAt.mine {w w' : World} {v : Value} {qs : List (Value × Dl × Value)} (h : DsAt w w' v qs) : DsOwn w.heap.size w' v qs := ⟨h.own, h.each⟩
theorem DsOwn.keep {S : Nat → Prop} {A B : World} {base : Nat} {v : Value} {qs : List (Value × Dl × Value)} (h : DsOwn base A v qs) (hO : Only S A B) (hS : ∀ k, base ≤ k → ¬ S k) : DsOwn base B v qs :=
  ⟨hO.owns h.own (fun g hg => hS g (own_low' h.own hg)), fun q hq => ⟨hO.owns (h.each q hq).cm (fun g hg => hS g (own_low' (h.each q hq).cm hg)), hO.owns (h.each q hq).bx (fun g hg => hS g (own_low' (h.each q hq).bx hg))⟩⟩
theorem DsOwn.dls {base : Nat} {w' : World} {v : Value} {qs : List (Value × Dl × Value)} (h : DsOwn base w' v qs) (hb : ∀ q ∈ qs, q.2.1.cm.length ≤ 9223372036854775807 ∧ q.2.1.bx.length ≤ 9223372036854775807) : DlsAt w' v (qs.map (·.2.1)) := by
  have hown := h.own
  by_cases h0 : qs.length = 0
  · obtain rfl : qs = [] := List.eq_nil_of_length_eq_zero h0
    obtain ⟨a, c, rfl⟩ := slice_of_own hown
    exact .inl ⟨_, _, rfl, rfl⟩
  · rcases hown.2 with ⟨_, hn⟩ | ⟨g, cap, cur, rfl, hbb, hg, hcap, hcap2, hsz, htk⟩
    · omega
    · refine .inr ⟨g, 0, cap, by rw [List.length_map], (Array.getElem?_eq_some_iff.1 hg).1, by rw [List.length_map]; exact hcap, by unfold maxLen at hcap2; omega, fun j hj => ?_⟩
      rw [List.length_map] at hj
      have h1 := rowD_at qs j hj
      have hd : dlAt (qs.map (·.2.1)) j = qs[j].2.1 := by simp [dlAt, List.getD, hj]
      have c1 := cell_of_row w' g (j * 3) cur 72 (0, 0) hg
      have c2 := cell_of_row w' g (j * 3 + 1) cur 72 (0, 0) hg
      have c3 := cell_of_row w' g (j * 3 + 2) cur 72 (0, 0) hg
      refine ⟨qs[j].1, qs[j].2.2, ?_⟩
      rw [hd, Nat.zero_add, c1, c2, c3]
      rw [← htk, List.getElem?_take_of_lt (by omega), List.getElem?_take_of_lt (by omega), List.getElem?_take_of_lt (by omega)] at h1
      have hm : qs[j] ∈ qs := List.getElem_mem hj
      exact ⟨by simpa using h1.1, by simpa using h1.2.1, by simpa using h1.2.2, (h.each _ hm).at (hb _ hm).1 (hb _ hm).2⟩
theorem DsAt.dls {w w' : World} {v : Value} {qs : List (Value × Dl × Value)} (h : DsAt w w' v qs) (hb : ∀ q ∈ qs, q.2.1.cm.length ≤ 9223372036854775807 ∧ q.2.1.bx.length ≤ 9223372036854775807) : DlsAt w' v (qs.map (·.2.1)) := h.mine.dls hb
end Go.Proofs.YtalclldccnichaaGreat

namespace Go.Proofs.YtalclldccnichaaGreat
open Go.RowKit

theorem keyP_mem (s : ByteArray) : memB (keyP s) = true := by
  have h := keyS_bd s
  exact mem_pow mem_four (by omega) (by omega)
theorem boxTo_mem (l : List Mb) (h : ∀ j, j < l.length → memB (mbAt l j).pb = true) : ∀ k, k ≤ l.length → membersB (boxTo l k) = true
  | 0, _ => rfl
  | k + 1, hk => by
    have ih := boxTo_mem l h k (by omega)
    unfold membersB at *
    rw [boxTo, List.all_append, ih, Bool.true_and, List.all_eq_true]
    intro x hx
    rw [(List.mem_replicate.1 hx).2]
    exact h k (by omega)
theorem crewTo_at (zs : List Int) (first : Nat) : ∀ n k, k < n → mbAt (crewTo zs first n) k = ⟨first + k, 1 + nxT zs (1 + k) 3, keyP (memS (first + k))⟩
  | n + 1, k, hk => by
    have hl := crewTo_len zs first n
    unfold mbAt
    rw [crewTo]
    by_cases h : k < n
    · have ih := crewTo_at zs first n k h
      unfold mbAt at ih
      rw [← ih]
      simp [List.getD, List.getElem?_append_left (show k < (crewTo zs first n).length by omega)]
    · obtain rfl : k = n := by omega
      simp [List.getD, hl]
theorem mbAt_out (l : List Mb) (j : Nat) (h : l.length ≤ j) : mbAt l j = ⟨0, 0, 0⟩ := by simp [mbAt, List.getD, h]
theorem crew_wt (zs : List Int) (first n j : Nat) : 0 ≤ (mbAt (crewTo zs first n) j).wt ∧ (mbAt (crewTo zs first n) j).wt ≤ 3 := by
  by_cases h : j < n
  · rw [crewTo_at zs first n j h]
    have := nxT_bd zs (1 + j) 3 (by decide)
    dsimp only
    omega
  · rw [mbAt_out _ _ (by rw [crewTo_len]; omega)]; decide
theorem crew_in (zs : List Int) (first n : Nat) (z : Int) : ∀ k, k ≤ n → (first : Int) + k ≤ z → inTo (ids (crewTo zs first n)) k z = false
  | 0, _, _ => rfl
  | k + 1, hk, hz => by
    rw [inTo, crew_in zs first n z k (by omega) (by omega), ptAt_ids, crewTo_at zs first n k (by omega), Bool.or_false]
    exact beq_eq_false_iff_ne.2 (by dsimp only; omega)
theorem crew_mb (zs : List Int) (first n : Nat) : ∀ k, k ≤ n → mbOk (crewTo zs first n) k = true
  | 0, _ => rfl
  | k + 1, hk => by
    have hb := nxT_bd zs (1 + k) 3 (by decide)
    rw [mbOk, crew_mb zs first n k (by omega), crewTo_at zs first n k (by omega), Bool.true_and]
    dsimp only
    rw [crew_in zs first n _ k (by omega) (Int.le_refl _), decide_eq_true (show 1 ≤ 1 + nxT zs (1 + k) 3 by omega), decide_eq_true (show 1 + nxT zs (1 + k) 3 ≤ 20 by omega)]
    rfl
theorem crew_sum (zs : List Int) (first n : Nat) : ∀ k, 0 ≤ sumTo (crewTo zs first n) k ∧ sumTo (crewTo zs first n) k ≤ 3 * k
  | 0 => by simp [sumTo]
  | k + 1 => by
    have ih := crew_sum zs first n k
    have := crew_wt zs first n k
    rw [sumTo]; omega
theorem manyZ_bd (zs : List Int) : 1 ≤ manyZ zs ∧ manyZ zs ≤ 4 := by
  have := nxT_bd zs 0 4 (by decide)
  unfold manyZ; omega
theorem crew_right (zs : List Int) (first : Nat) : rightB (crewTo zs first (manyZ zs)) = true := by
  have hm := manyZ_bd zs
  have hs := crew_sum zs first (manyZ zs) (manyZ zs)
  unfold rightB
  rw [crewTo_len, crew_mb zs first _ _ (Nat.le_refl _), decide_eq_true hm.1, decide_eq_true (show manyZ zs ≤ 13 by omega), decide_eq_true (show sumTo (crewTo zs first (manyZ zs)) (manyZ zs) ≤ 60 by omega)]
  rfl
/-- How many must join. -/
def ndOf (l : List Mb) : Nat := (needZ (sumTo l l.length)).toNat
theorem crew_ok (zs : List Int) (first : Nat) (hf : first ≤ 1000) : CrewOk (crewTo zs first (manyZ zs)) (ndOf (crewTo zs first (manyZ zs))) := by
  have hm := manyZ_bd zs
  have hr := crew_right zs first
  have hl := crewTo_len zs first (manyZ zs)
  have hs := crew_sum zs first (manyZ zs) (manyZ zs)
  have hp := sumTo_pos (crewTo zs first (manyZ zs)) (manyZ zs) (crew_mb zs first _ _ (Nat.le_refl _))
  have ht : totZ (crewTo zs first (manyZ zs)) = sumTo (crewTo zs first (manyZ zs)) (manyZ zs) := by unfold totZ; rw [if_pos hr, hl]
  have hb := boxTo_len (crewTo zs first (manyZ zs)) (fun j => (crew_wt zs first _ j).1) (manyZ zs)
  have hn : 1 ≤ needZ (sumTo (crewTo zs first (manyZ zs)) (manyZ zs)) ∧ needZ (sumTo (crewTo zs first (manyZ zs)) (manyZ zs)) ≤ sumTo (crewTo zs first (manyZ zs)) (manyZ zs) := by
    unfold needZ mostZ
    rw [if_neg (by omega), if_neg (by omega)]
    omega
  refine ⟨⟨fun j => ?_⟩, by omega, by omega, fun j hj => ?_, fun j => ?_, boxTo_mem _ (fun j hj => ?_) _ (Nat.le_refl _), ?_, ?_, ?_, ?_, by omega⟩
  · have h1 := crew_wt zs first (manyZ zs) j
    refine ⟨?_, by omega, by omega⟩
    by_cases h : j < manyZ zs
    · rw [crewTo_at zs first _ j h]; dsimp only; omega
    · rw [mbAt_out _ _ (by omega)]; decide
  · rw [crewTo_at zs first _ j (by omega)]; dsimp only; omega
  · have h1 := crew_wt zs first (manyZ zs) j
    omega
  · rw [crewTo_at zs first _ j (by omega)]; exact keyP_mem _
  · rw [hl]; omega
  · unfold ndOf; rw [hl, ht]; omega
  · unfold ndOf; rw [hl]; omega
  · unfold ndOf; rw [hl]; omega
end Go.Proofs.YtalclldccnichaaGreat

namespace Go.Proofs.YtalclldccnichaaGreat
open Go.RowKit

theorem cmTo_mem (cs : List Int) (h : ∀ j, 0 ≤ ptAt cs j ∧ ptAt cs j < 1152921504606845789) : ∀ k, membersB (cmTo cs k) = true
  | 0 => rfl
  | k + 1 => by
    have ih := cmTo_mem cs h k
    unfold membersB at *
    rw [cmTo, List.all_append, ih, Bool.true_and, List.all_eq_true]
    intro x hx
    rw [List.mem_singleton.1 hx]
    have := h k
    exact mem_pow mem_four (by omega) (by omega)
theorem bxTo_16 (cs ks : List Int) (n : Int) : ∀ k j, j < k → (sAt (bxTo cs ks n k) j).size = 16
  | k + 1, j, hj => by
    have hl := bxTo_len cs ks n k
    unfold sAt
    rw [bxTo]
    by_cases h : j < k
    · have ih := bxTo_16 cs ks n k j h
      unfold sAt at ih
      rw [← ih]
      simp [List.getD, List.getElem?_append_left (show j < (bxTo cs ks n k).length by omega)]
    · obtain rfl : j = k := by omega
      have e : ((bxTo cs ks n j ++ [boxOf cs ks n j]).getD j ByteArray.empty) = boxOf cs ks n j := by simp [List.getD, hl]
      rw [e]; unfold boxOf; rw [strOf_size, sealL_len]
theorem chk_deal (cs ks : List Int) (seed : ByteArray) (h : ∀ j, 0 ≤ ptAt cs j ∧ ptAt cs j < 1152921504606845789) (h1 : 1 ≤ cs.length) (h2 : cs.length ≤ ks.length) : ChkOk (dealZ cs ks seed) ks.length := by
  have hs := scalarZ_bd (ptS seed)
  refine ⟨bxTo_len _ _ _ _, ?_, ?_, mem_pow mem_four (by omega) (by omega), cmTo_mem cs h _, fun j hj => bxTo_16 _ _ _ _ _ hj⟩
  · show 1 ≤ (cmTo cs cs.length).length; rw [cmTo_len]; exact h1
  · show (cmTo cs cs.length).length ≤ _; rw [cmTo_len]; exact h2
end Go.Proofs.YtalclldccnichaaGreat

namespace Go.Proofs.YtalclldccnichaaGreat
open Go.RowKit

theorem Tryz.infoKe : (Tryz.prog.info? 28).map (·.size) = some 2 := by kernel_rfl
def onesL (n : Nat) : List Int := List.replicate n 1
theorem onesL_succ (n : Nat) : onesL (n + 1) = onesL n ++ [1] := by unfold onesL; rw [List.replicate_succ']
theorem onesL_len (n : Nat) : (onesL n).length = n := by unfold onesL; simp
theorem onesL_at (n j : Nat) (h : j < n) : ptAt (onesL n) j = 1 := by unfold onesL ptAt; simp [List.getD, h]
theorem two_slices (a b : Option Addr) (m n c d : Nat) : (#[Value.slice a m c, .slice b n d] : Array Value).all (·.oneCell') = true := by simp [Value.oneCell']
theorem GridOwn.base {b b' : Nat} {W : World} {v : Value} {us : List Value} {rows : List (List Int)} (h : GridOwn b W v us rows) (hb : b' ≤ b) : GridOwn b' W v us rows :=
  ⟨own_base h.out hb, h.len, fun j hj => own_base (h.own j hj) hb, h.f2⟩
theorem MbsAt.slice {W : World} {sv : Value} {l : List Mb} (h : MbsAt W sv l) : ∃ a c, sv = .slice a l.length c := by
  rcases h with ⟨a, c, rfl, rfl⟩ | ⟨b, off, cap, rfl, _⟩
  · exact ⟨_, _, rfl⟩
  · exact ⟨_, _, rfl⟩
/-- Keys come back. -/
def BeginPost (w : World) (cm : List Int) (rows : List (List Int)) (e : Ending) (w' : World) : Prop :=
  Only (fun _ => False) w w' ∧ ∃ vc vp, e = .returned (.tuple #[.agg #[vc, vp], .bool true]) ∧ w'.ownsRow (w.heap.size + 1) 3 1 vc cm.length (irow cm) ∧ ∃ us, GridOwn (w.heap.size + 1) w' vp us rows
set_option maxRecDepth 100000 in
set_option maxHeartbeats 1000000 in
theorem rbegin_yes (sv dv : Value) (l : List Mb) (ds : List Dl) (n nd : Nat) (w : World) (hM : MbsAt w sv l) (hw : MbsW l) (hr : rightB l = true) (hD : DlsAt w dv ds) (ht : totZ l = n) (hn : 1 ≤ n) (hn2 : n ≤ 1000) (hnd : needZ n = nd) (hnd2 : nd ≤ 1000) (hl : 1 ≤ ds.length) (hl2 : ds.length ≤ 1000)
    (hk : ∀ j, j < ds.length → ChkOk (dlAt ds j) n ∧ (dlAt ds j).cm.length = nd) :
    Calls Tryz.prog 15 #[sv, dv] w (BeginPost w (mixL ds (onesL ds.length) nd) (pointsOf l)) := by
  obtain ⟨i0, hi0, hz0, hz1, hz2⟩ := info_parts Tryz.infoI
  obtain ⟨ad, cd, rfl⟩ := hD.slice
  obtain ⟨am, cm, rfl⟩ := hM.slice
  have hA := (Only.refl (fun _ => False) w).alloc (.cells #[.slice none 0 0, .slice none 0 0] 28)
  have HA := Lib.hid hA
  have HM := Lib.hid (hM.only hA)
  have HD := Lib.hid (hD.only hA)
  have HT := Lib.hid (rtotal_any _ l n _ hw (hM.only hA) ht)
  have HW := Lib.hid hw
  have HRT := Lib.hid hr
  have HK := Lib.hid hk
  have HND := Lib.hid (fun w => rneed_is n nd w (by omega) hnd)
  have HZ0 := Lib.hid (heap_alloc_last w (.cells #[.slice none 0 0, .slice none 0 0] 28))
  have HND0 := Lib.hid hnd
  clear hD hM hw ht hk hnd hA hr
  have q1 : ((n : Int) == 0) = false := beq_eq_false_iff_ne.2 (by omega)
  go_enter Tryz.func15, Tryz.ntmps15
  go_wp2_with fail
  refine HT.out.mono ?_
  rintro e w1 ⟨rfl, hO1⟩
  have HO1 := Lib.hid hO1
  have HZ1 := Lib.hid (row_still hO1 HZ0.out)
  clear hO1 HZ0
  go_wp2_with fail
  refine (rfits_yes _ ds n nd w1 (HD.out.only HO1.out) hl hl2 hn2 HND0.out HK.out).mono ?_
  rintro e w2 ⟨rfl, hO2⟩
  have HO2 := Lib.hid (HO1.out.trans hO2)
  have HZ2 := Lib.hid (row_still hO2 HZ1.out)
  clear hO2 HZ1 HO1
  have hsz : w.heap.size < w2.heap.size := own_lt0 HZ2.out
  go_wp2_with fail
  go_loopw [8, 9] (fun vo vi wr => ∃ k : Nat, k ≤ ds.length ∧ vi = .int .i64 k ∧ wr.ownsRow w2.heap.size 3 1 vo k (irow (onesL k)) ∧ Only (fun _ => False) w2 wr) (fun _ vi _ => ds.length - (intOf vi).toNat)
  case atStart => exact ⟨0, Nat.zero_le _, rfl, World.ownsRow_nil _ _ _ _, Only.refl _ _⟩
  case round =>
    obtain ⟨k, hk, rfl, hown, hO⟩ := hrel
    have HO := Lib.hid hO
    have HOWN := Lib.hid hown
    obtain ⟨av, cv, rfl⟩ := slice_of_own hown
    by_cases hlt : k < ds.length
    · have hown2 := hown.alloc (.cells #[.int .i64 1] 3)
      have HON := Lib.hid (onesL_succ k)
      have i1 : (k : Int) < ds.length := by omega
      have hsw := hO.size
      generalize onesL k = L at *
      clear hO hown
      go_wp2_with (at_builtin; refine wpList_append_lies _ rfl _ _ 22 rfl w2.heap.size 3 i0 _ 1 8 Tryz.underlying22 hi0 hz0 hz1 hz2 rfl (by decide) _ k (irow L) rfl hown2 ⟨wr.heap.size, 0, none⟩ 1 1 [.int .i64 1] rfl rfl (cell_one_new _ _ _) (one_int _) (by decide) ?c1 ?c2 ?c3 _ rfl ?_)
      case c1 => unfold maxLen; omega
      case c2 => omega
      case c3 => first | omega | (simp; omega)
      intro g1 cp1 w3 ho1 hg1 ha1 hgl1
      have HO3 := Lib.hid ((HO.out.alloc (.cells #[.int .i64 1] 3)).grow hown2 (Nat.le_refl _) hg1)
      have HOW := Lib.hid ho1
      clear ho1 hg1 ha1 hown2
      go_wp2
      go_roundw
      case rel => exact ⟨k + 1, by omega, by go_num, by rw [HON.out, irow_append]; exact HOW.out, HO3.out⟩
      case measure => simp [intOf]; omega
    · obtain rfl : k = ds.length := by omega
      have i1 : ¬ (ds.length : Int) < ds.length := by omega
      have HP := Lib.hid (show PtsAt wr.heap.size wr (.slice av ds.length cv) (onesL ds.length) from pts_of_own (by rw [onesL_len]; exact hown) (by rw [onesL_len]; omega))
      have HO3 := Lib.hid (HO2.out.trans hO)
      have HZ3 := Lib.hid (row_still hO HZ2.out)
      clear hown hO HOWN HO HO2 HZ2
      go_wp2_with fail
      refine (rpoints_own _ l wr HW.out (HM.out.only HO3.out)).mono ?_
      rintro e w4 ⟨hO4, ⟨h1, vp, us, rfl, hG⟩ | ⟨h1, rfl⟩⟩
      rotate_left
      · exact absurd HRT.out (by rw [h1]; decide)
      have HO4 := Lib.hid (HO3.out.trans hO4)
      have HZ4 := Lib.hid (row_still hO4 HZ3.out)
      have HP4 := Lib.hid (HP.out.only hO4)
      have HG4 := Lib.hid hG
      obtain ⟨ap, cp, rfl⟩ := slice_of_own hG.out
      have hsz3 : w.heap.size < wr.heap.size := own_lt0 HZ3.out
      clear hG hO4 HO3 HZ3 HP h1
      go_wp2_with fail
      refine (HND.out _).mono ?_
      rintro e w4' ⟨rfl, rfl⟩
      go_wp2_with fail
      refine (rmixed_any _ _ ds (onesL ds.length) nd w4 (HD.out.only HO4.out) HP4.out (onesL_len _) hl2 hnd2 (fun j hj => Nat.le_of_eq (HK.out j hj).2.symm) (fun j hj => by rw [onesL_len] at hj; rw [onesL_at _ _ hj]; decide)).mono ?_
      rintro e w5 ⟨v, rfl, hown5, hO5⟩
      have HO5 := Lib.hid (HO4.out.trans hO5)
      have HZ5 := Lib.hid (row_still hO5 HZ4.out)
      have HPOST := Lib.hid (show ∀ w6, Only (fun k => k = w.heap.size) w5 w6 → BeginPost w (mixL ds (onesL ds.length) nd) (pointsOf l) (.returned (.tuple #[.agg #[v, .slice ap us.length cp], .bool true])) w6 from fun w6 hO6 => by
        have hsz4 := own_lt0 HZ4.out
        refine ⟨(HA.out.trans HO5.out).trans' hO6 (fun i hi e => by omega), _, _, rfl, ?_, us, ?_⟩
        · exact own_base (hO6.owns hown5 (fun g hg e => by have := own_low' hown5 hg; omega)) (by omega)
        · have hg5 := HG4.out.keep hO5 (fun _ _ h => h)
          exact GridOwn.base (hg5.keep hO6 (fun k hk e => by omega)) (by omega))
      obtain ⟨av2, cv2, rfl⟩ := slice_of_own hown5
      clear hown5 hO5
      go_wp2_with (first | (refine wpList_store_row rfl 28 _ _ rfl w.heap.size #[.slice av2 (mixL ds (onesL ds.length) nd).length cv2, .slice ap us.length cp] rfl rfl 28 _ HZ5.out Tryz.infoKe rfl (two_slices _ _ _ _ _ _) ?_))
      refine bodyPost_ret (v := .tuple #[.agg #[.slice av2 (mixL ds (onesL ds.length) nd).length cv2, .slice ap us.length cp], .bool true]) (results_cell_tmp (p := 4) (q := 5) rfl _ _ w.heap.size 28 #[.slice av2 (mixL ds (onesL ds.length) nd).length cv2, .slice ap us.length cp] (0, 0) _ rfl (setRow_heap _ _ _ _ _ _ HZ5.out) Tryz.underlying28 rfl Tryz.infoKe _ rfl) rfl (HPOST.out _ ?_)
      exact (Only.refl (fun k => k = w.heap.size) w5).trans' (T := fun k => k = w.heap.size) ⟨rfl, rfl, rfl, by simp, fun k _ hk => heap_setRow_other _ _ _ _ hk⟩ (fun _ _ e => e)
end Go.Proofs.YtalclldccnichaaGreat

namespace Go.Proofs.YtalclldccnichaaGreat
open Go.RowKit

theorem Tryz.infoG : (Tryz.prog.info? 30).map (·.size) = some 5 := by kernel_rfl
def zerosL (n : Nat) : List Int := List.replicate n 0
theorem zerosL_succ (n : Nat) : zerosL (n + 1) = zerosL n ++ [0] := by unfold zerosL; rw [List.replicate_succ']
theorem zerosL_len (n : Nat) : (zerosL n).length = n := by unfold zerosL; simp
theorem zerosL_at (n j : Nat) : ptAt (zerosL n) j = 0 := by
  unfold zerosL ptAt
  by_cases h : j < n
  · simp [List.getD, h]
  · simp [List.getD, h]
/-- One polynomial is added. -/
def addTo (L P : List Int) : Nat → List Int
  | 0 => L
  | j + 1 => (addTo L P j).set j ((ptAt L j + ptAt P j) % 1152921504606845789)
theorem addTo_len (L P : List Int) : ∀ j, (addTo L P j).length = L.length
  | 0 => rfl
  | j + 1 => by rw [addTo, List.length_set, addTo_len L P j]
theorem ptAt_set (L : List Int) (j i : Nat) (x : Int) : ptAt (L.set j x) i = if j = i ∧ j < L.length then x else ptAt L i := by
  unfold ptAt
  simp only [List.getD, List.getElem?_set]
  by_cases h : j = i
  · subst h
    by_cases h2 : j < L.length
    · simp [h2]
    · simp [h2]
  · simp [h]
theorem addTo_at (L P : List Int) : ∀ j i, j ≤ i → ptAt (addTo L P j) i = ptAt L i
  | 0, _, _ => rfl
  | j + 1, i, h => by rw [addTo, ptAt_set, if_neg (by omega), addTo_at L P j i (by omega)]
theorem addTo_in (L P : List Int) : ∀ j i, i < j → i < L.length → ptAt (addTo L P j) i = (ptAt L i + ptAt P i) % 1152921504606845789
  | j + 1, i, h, h2 => by
    rw [addTo, ptAt_set]
    by_cases e : j = i
    · subst e; rw [if_pos ⟨rfl, by rw [addTo_len]; exact h2⟩]
    · rw [if_neg (fun c => e c.1), addTo_in L P j i (by omega) h2]
def firstS : ByteArray := ⟨#[102, 105, 114, 115, 116]⟩
def seedOf (l : List Mb) (k : Nat) : ByteArray := dlSeed firstS (mbAt l k).id.toNat
/-- The sum of the first k polynomials. -/
def coefTo (l : List Mb) (nd : Nat) : Nat → List Int
  | 0 => zerosL nd
  | k + 1 => addTo (coefTo l nd k) (polyTo (seedOf l k) nd) nd
theorem coefTo_len (l : List Mb) (nd : Nat) : ∀ k, (coefTo l nd k).length = nd
  | 0 => zerosL_len nd
  | k + 1 => by rw [coefTo, addTo_len, coefTo_len l nd k]
theorem coefTo_bd (l : List Mb) (nd : Nat) : ∀ k j, 0 ≤ ptAt (coefTo l nd k) j ∧ ptAt (coefTo l nd k) j < 1152921504606845789
  | 0, j => by rw [coefTo, zerosL_at]; decide
  | k + 1, j => by
    rw [coefTo]
    by_cases h : j < nd
    · rw [addTo_in _ _ _ _ h (by rw [coefTo_len]; exact h)]
      exact emod_self_lt _ _ (by decide)
    · rw [addTo_at _ _ _ _ (by omega)]; exact coefTo_bd l nd k j
theorem own_set {w : World} {base e n j g cap : Nat} {xs : List Value} (h : w.ownsRow base e 1 (.slice (some ⟨g, 0, none⟩) n cap) n xs) (u : Value) (_hj : j < n) : (w.setCell ⟨g, j, none⟩ u).ownsRow base e 1 (.slice (some ⟨g, 0, none⟩) n cap) n (xs.set j u) := by
  refine ⟨by rw [List.length_set]; exact h.1, ?_⟩
  rcases h.2 with ⟨hn, _⟩ | ⟨g', cap', cur, hv, hb, hg, hcap, hcap2, hsz, htk⟩
  · simp at hn
  · simp only [Value.slice.injEq, Option.some.injEq, Addr.mk.injEq, and_true, true_and] at hv
    obtain ⟨rfl, rfl⟩ := hv
    refine .inr ⟨g, cap, cur.setIfInBounds j u, rfl, hb, heap_setCell_same w g j cur e u hg, hcap, hcap2, by rw [Array.size_setIfInBounds]; exact hsz, ?_⟩
    rw [Array.toList_setIfInBounds, List.take_set, htk]
theorem irow_set (L : List Int) (j : Nat) (z : Int) : (irow L).set j (.int .i64 z) = irow (L.set j z) := by unfold irow; rw [List.map_set]
/-- The group that is being made; w1 is the world before its block. -/
structure GrpAt (w1 wr : World) (vm vs vc : Value) (L : List Int) : Prop where
  blk : wr.heap[w1.heap.size]? = some (.cells #[vm, vs, vc, .slice none 0 0, .slice none 0 0] 30 (0, 0))
  own : wr.ownsRow (w1.heap.size + 1) 3 1 vc L.length (irow L)
  only : Only (fun _ => False) w1 wr
theorem GrpAt.frame {w1 wr w' : World} {vm vs vc : Value} {L : List Int} (h : GrpAt w1 wr vm vs vc L) (hO : Only (fun _ => False) wr w') : GrpAt w1 w' vm vs vc L :=
  ⟨row_still hO h.blk, hO.owns h.own (fun _ _ h => h), h.only.trans hO⟩
theorem GrpAt.more {w1 wn w' : World} {vm vs vc : Value} {L : List Int} {z : Int} {k g cap : Nat} (h : GrpAt w1 wn vm vs vc L) (hk : L.length = k)
    (hown : w'.ownsRow (w1.heap.size + 1) 3 1 (.slice (some ⟨g, 0, none⟩) (k + 1) cap) (k + 1) (irow L ++ [.int .i64 z])) (hg : wn.grownBy w' vc.ownBlock) :
    w'.heap[w1.heap.size]? = some (.cells #[vm, vs, vc, .slice none 0 0, .slice none 0 0] 30 (0, 0)) ∧ GrpAt w1 (w'.setCell ⟨w1.heap.size, 2, none⟩ (.slice (some ⟨g, 0, none⟩) (k + 1) cap)) vm vs (.slice (some ⟨g, 0, none⟩) (k + 1) cap) (L ++ [z]) := by
  subst hk
  have hO : Only (fun i => vc.ownBlock = some i) wn w' := (Only.refl _ _).grown hg (fun i e _ => e)
  have hne : vc.ownBlock ≠ some w1.heap.size := fun e => by have := own_low' h.own e; omega
  have hblk := (hO.block w1.heap.size (own_lt0 h.blk) hne).trans h.blk
  have hgb : (Value.slice (some ⟨g, 0, none⟩) (L.length + 1) cap).ownBlock = some g := rfl
  have hgl := own_low' hown hgb
  refine ⟨hblk, heap_setCell_same _ _ 2 _ _ _ hblk, ?_, ?_⟩
  · rw [List.length_append, List.length_singleton, irow_append]
    exact ownsRow_setCell_other hown (by rw [hgb]; simp; omega) _
  · refine (h.only.trans' hO (fun i hi e => ?_)).setCell (.inr (Nat.le_refl _)) _
    have := own_low' h.own e; omega
theorem GrpAt.put {w1 wn : World} {vm vs : Value} {L : List Int} {z : Int} {g cap j n : Nat} (h : GrpAt w1 wn vm vs (.slice (some ⟨g, 0, none⟩) n cap) L) (hn : L.length = n) (hj : j < n) :
    GrpAt w1 (wn.setCell ⟨g, j, none⟩ (.int .i64 z)) vm vs (.slice (some ⟨g, 0, none⟩) n cap) (L.set j z) ∧ Only (fun k => k = g) wn (wn.setCell ⟨g, j, none⟩ (.int .i64 z)) ∧ w1.heap.size < g := by
  subst hn
  have hgl := own_low' h.own (show (Value.slice (some ⟨g, 0, none⟩) L.length cap).ownBlock = some g from rfl)
  have hO : Only (fun k => k = g) wn (wn.setCell ⟨g, j, none⟩ (.int .i64 z)) := (Only.refl (fun k => k = g) wn).setCell (p := ⟨g, j, none⟩) (.inl rfl) _
  refine ⟨⟨(hO.block w1.heap.size (own_lt0 h.blk) (fun e => by omega)).trans h.blk, ?_, h.only.trans' hO (fun i hi e => by omega)⟩, hO, hgl⟩
  rw [List.length_set, ← irow_set]
  exact own_set h.own _ hj
/-- The numbers of a slice that lies in a block of its own. -/
theorem own_cells {w : World} {base n : Nat} {v : Value} {L : List Int} (h : w.ownsRow base 3 1 v L.length (irow L)) (hn : L.length = n) (hp : 0 < n) :
    ∃ g cap, v = .slice (some ⟨g, 0, none⟩) n cap ∧ g < w.heap.size ∧ n ≤ cap ∧ cap ≤ 9223372036854775807 ∧ ∀ j, j < n → w.cell? ⟨g, j, none⟩ = some (.int .i64 (ptAt L j)) ∧ w.frozen? ⟨g, j, none⟩ = false := by
  subst hn
  rcases h.2 with ⟨_, h0⟩ | ⟨g, cap, cur, rfl, hb, hg, hcap, hcap2, hsz, htk⟩
  · omega
  · refine ⟨g, cap, rfl, (Array.getElem?_eq_some_iff.1 hg).1, hcap, by unfold maxLen at hcap2; omega, fun j hj => ⟨?_, frozen_of_row _ _ j _ _ hg⟩⟩
    rw [cell_of_row w g j cur 3 (0, 0) hg]
    have h1 := irow_get L j hj
    rw [← h1, ← htk, List.getElem?_take_of_lt (by omega)]
    simp
end Go.Proofs.YtalclldccnichaaGreat

namespace Go.Proofs.YtalclldccnichaaGreat
open Go.RowKit

def crewZ (zs : List Int) : List Mb := crewTo zs 1 (manyZ zs)
def ndZ (zs : List Int) : Nat := ndOf (crewZ zs)
def coefZ (zs : List Int) : List Int := coefTo (crewZ zs) (ndZ zs) (crewZ zs).length
def dealsZ (zs : List Int) : List Dl := dlsTo (crewZ zs) firstS (ndZ zs) (crewZ zs).length
def commZ (zs : List Int) : List Int := mixL (dealsZ zs) (onesL (dealsZ zs).length) (ndZ zs)
/-- A group comes back. -/
def MadePost (w : World) (zs : List Int) (e : Ending) (w' : World) : Prop :=
  Only (fun _ => False) w w' ∧ ∃ vm vs vc vk vp, e = .returned (.agg #[vm, vs, vc, vk, vp]) ∧ MbsAt w' vm (crewZ zs) ∧ PtsAt w'.heap.size w' vs (secTo 1 (manyZ zs)) ∧ PtsAt w'.heap.size w' vc (coefZ zs) ∧ PtsAt w'.heap.size w' vk (commZ zs) ∧ GridAt w' vp (pointsOf (crewZ zs))
theorem dlsTo_at (l : List Mb) (seed : ByteArray) (nd : Nat) : ∀ n k, k < n → dlAt (dlsTo l seed nd n) k = dlOf l seed nd k
  | n + 1, k, hk => by
    have hl := dlsTo_len l seed nd n
    unfold dlAt
    rw [dlsTo]
    by_cases h : k < n
    · have ih := dlsTo_at l seed nd n k h
      unfold dlAt at ih
      rw [← ih]
      simp [List.getD, List.getElem?_append_left (show k < (dlsTo l seed nd n).length by omega)]
    · obtain rfl : k = n := by omega
      simp [List.getD, hl]
theorem polyTo_bd0 (seed : ByteArray) (n j : Nat) : 0 ≤ ptAt (polyTo seed n) j ∧ ptAt (polyTo seed n) j < 1152921504606845789 := polyTo_bd seed n j
theorem dl_ok (l : List Mb) (seed : ByteArray) (nd n k : Nat) (h1 : 1 ≤ nd) (h2 : nd ≤ (boxTo l l.length).length) (hn : (boxTo l l.length).length = n) : ChkOk (dlOf l seed nd k) n ∧ (dlOf l seed nd k).cm.length = nd := by
  subst hn
  refine ⟨chk_deal _ _ _ (fun j => polyTo_bd _ _ j) (by rw [polyTo_len]; exact h1) (by rw [polyTo_len]; exact h2), ?_⟩
  unfold dlOf dealZ
  rw [cmTo_len, polyTo_len]
theorem firstS_eq (b : ByteArray) : (⟨#[102, 105, 114, 115, 116, 32]⟩ : ByteArray) ++ b = firstS ++ ⟨#[32]⟩ ++ b := rfl
theorem five_slices (a b c d e : Option Addr) (i j k l m i' j' k' l' m' : Nat) : (#[Value.slice a i i', .slice b j j', .slice c k k', .slice d l l', .slice e m m'] : Array Value).all (·.oneCell') = true := by simp [Value.oneCell']

theorem own_at {w : World} {base g n cap j : Nat} {L : List Int} (h : w.ownsRow base 3 1 (.slice (some ⟨g, 0, none⟩) n cap) L.length (irow L)) (hn : L.length = n) (hj : j < n) :
    g < w.heap.size ∧ n ≤ cap ∧ cap ≤ 9223372036854775807 ∧ w.cell? ⟨g, j, none⟩ = some (.int .i64 (ptAt L j)) ∧ w.frozen? ⟨g, j, none⟩ = false := by
  obtain ⟨g', cap', hv, h1, h2, h3, h4⟩ := own_cells h hn (by omega)
  simp only [Value.slice.injEq, Option.some.injEq, Addr.mk.injEq, and_true, true_and] at hv
  obtain ⟨rfl, rfl⟩ := hv
  exact ⟨h1, h2, h3, h4 j hj⟩
theorem deals_len {qs : List (Value × Dl × Value)} {l : List Mb} {seed : ByteArray} {nd k : Nat} (hq : qs.map (·.2.1) = dlsTo l seed nd k) (hnd : nd ≤ 60) (hb : (boxTo l l.length).length ≤ 60) : ∀ q ∈ qs, q.2.1.cm.length ≤ 9223372036854775807 ∧ q.2.1.bx.length ≤ 9223372036854775807 := by
  intro q hm
  obtain ⟨j, hj, rfl⟩ := List.mem_iff_getElem.1 hm
  have hk : qs.length = k := by have := congrArg List.length hq; rw [List.length_map, dlsTo_len] at this; exact this
  have h1 : qs[j].2.1 = dlAt (dlsTo l seed nd k) j := by rw [← hq]; simp [dlAt, List.getD, hj]
  rw [h1, dlsTo_at _ _ _ _ _ (by omega)]
  unfold dlOf dealZ
  dsimp only
  rw [cmTo_len, polyTo_len, bxTo_len]
  omega
/-- A block without numbers is written: numbers elsewhere stay. -/
theorem pts_kept {A B : World} {g : Nat} {v : Value} {zs : List Int} (hO : Only (fun k => k = g) A B) (hg : ∀ o z, A.cell? ⟨g, o, none⟩ ≠ some (.int .i64 z)) (h : PtsAt A.heap.size A v zs) : PtsAt B.heap.size B v zs := by
  rcases h with h | ⟨b, off, cap, e, hb, h1, h2, hc⟩
  · exact .inl h
  · exact .inr ⟨b, off, cap, e, Nat.lt_of_lt_of_le hb hO.size, h1, h2, fun j hj => hO.cell (hc j hj) (fun e => hg (off + j) _ (by rw [← show b = g from e]; exact hc j hj))⟩
theorem mbs_kept {A B : World} {g : Nat} {v : Value} {l : List Mb} (hO : Only (fun k => k = g) A B) (hg : ∀ o z, A.cell? ⟨g, o, none⟩ ≠ some (.int .i64 z)) (h : MbsAt A v l) : MbsAt B v l := by
  rcases h with h | ⟨b, off, cap, e, hb, h1, h2, hc⟩
  · exact .inl h
  · refine .inr ⟨b, off, cap, e, Nat.lt_of_lt_of_le hb hO.size, h1, h2, fun j hj => ?_⟩
    obtain ⟨c0, c1, c2⟩ := hc j hj
    have hne : ¬ b = g := fun e => hg (off + j * 3) _ (by rw [← e]; exact c0)
    exact ⟨hO.cell c0 hne, hO.cell c1 hne, hO.cell c2 hne⟩
theorem nils_ints {w : World} {g : Nat} {t : TypeId} (h : w.heap[g]? = some (.cells #[.slice none 0 0, .slice none 0 0, .slice none 0 0, .slice none 0 0, .slice none 0 0] t (0, 0))) : ∀ o z, w.cell? ⟨g, o, none⟩ ≠ some (.int .i64 z) := by
  intro o z e
  rw [cell_of_row _ _ o _ _ _ h] at e
  match o with
  | 0 => simp at e
  | 1 => simp at e
  | 2 => simp at e
  | 3 => simp at e
  | 4 => simp at e
  | o + 5 => simp at e
/-- Numbers of the crew that Begin needs. -/
theorem crew_tot {l : List Mb} {nd : Nat} (hr : rightB l = true) (hk : CrewOk l nd) : totZ l = ((boxTo l l.length).length : Nat) ∧ needZ ((boxTo l l.length).length : Nat) = nd := by
  have h1 : totZ l = ((boxTo l l.length).length : Nat) := by
    rw [boxTo_len l (fun j => (hk.wt j).1)]; unfold totZ; rw [if_pos hr]
  exact ⟨h1, by rw [← h1]; exact hk.ndz⟩

set_option maxRecDepth 100000 in
set_option maxHeartbeats 2000000 in
theorem rmade_any (sv : Value) (zs : List Int) (w : World) (hI : PtsAt w.heap.size w sv zs) (hlen : zs.length ≤ 9223372036854775807) :
    Calls Tryz.prog 7 #[sv] w (MadePost w zs) := by
  obtain ⟨i0, hi0, hz0, hz1, hz2⟩ := info_parts Tryz.infoI
  have hA := (Only.refl (fun _ => False) w).alloc (.cells #[.slice none 0 0, .slice none 0 0, .slice none 0 0, .slice none 0 0, .slice none 0 0] 30)
  have HA := Lib.hid hA
  have HZ0 := Lib.hid (heap_alloc_last w (.cells #[.slice none 0 0, .slice none 0 0, .slice none 0 0, .slice none 0 0, .slice none 0 0] 30))
  have HC := Lib.hid (rcrew_any sv zs 1 _ (hI.only hA) (by decide) hlen)
  have HOK := Lib.hid (show CrewOk (crewZ zs) (ndZ zs) from crew_ok zs 1 (by decide))
  have HR := Lib.hid (show rightB (crewZ zs) = true from crew_right zs 1)
  obtain ⟨a, c, rfl⟩ := hI.slice
  clear hI hA
  go_enter Tryz.func7, Tryz.ntmps7
  go_wp2_with fail
  refine HC.out.mono ?_
  rintro e w1 ⟨hO1, vm, vs, rfl, hM, hS⟩
  have HM := Lib.hid (show MbsAt w1 vm (crewZ zs) from hM)
  have HS := Lib.hid hS
  have HO1 := Lib.hid (HA.out.trans hO1)
  have HZ1 := Lib.hid (row_still hO1 HZ0.out)
  obtain ⟨am, cm, rfl⟩ := HM.out.slice
  obtain ⟨ax, cx, rfl⟩ := hS.slice
  clear hM hS hO1 HA HZ0 HC
  have HCZ := Lib.hid (show crewZ zs = crewTo zs 1 (manyZ zs) from rfl)
  have HNZ := Lib.hid (show ndZ zs = ndOf (crewZ zs) from rfl)
  have HCO := Lib.hid (show coefZ zs = coefTo (crewZ zs) (ndZ zs) (crewZ zs).length from rfl)
  have HDE := Lib.hid (show dealsZ zs = dlsTo (crewZ zs) firstS (ndZ zs) (crewZ zs).length from rfl)
  have HCM := Lib.hid (show commZ zs = mixL (dealsZ zs) (onesL (dealsZ zs).length) (ndZ zs) from rfl)
  generalize hcrew : crewZ zs = M at *
  generalize hnd : ndZ zs = nd at *
  generalize hsec : secTo 1 (manyZ zs) = S at *
  go_wp2_with fail
  have HG0 := Lib.hid (show GrpAt w1 (w1.alloc (.cells #[.slice am M.length cm, .slice ax S.length cx, .slice none 0 0, .slice none 0 0, .slice none 0 0] 30)) (.slice am M.length cm) (.slice ax S.length cx) (.slice none 0 0) [] from ⟨heap_alloc_last w1 _, World.ownsRow_nil _ _ _ _, (Only.refl _ w1).alloc _⟩)
  refine (rtotal_any _ M (totZ M) _ HOK.out.w (HM.out.only HG0.out.only) rfl).mono ?_
  rintro e w2 ⟨rfl, hO2⟩
  have HG1 := Lib.hid (HG0.out.frame hO2)
  clear hO2 HG0
  go_wp2_with fail
  refine (rneed_is (totZ M) nd w2 HOK.out.tot HOK.out.ndz).mono ?_
  rintro e w2' ⟨rfl, rfl⟩
  go_wp2_with fail
  have hnd1 := HOK.out.nd1
  have hnd2 : nd ≤ 60 := Nat.le_trans HOK.out.nd2 HOK.out.many
  have hM1 := HOK.out.len1
  have hM2 := HOK.out.len2
  go_loopw [7] (fun vi wr => ∃ k : Nat, k ≤ nd ∧ vi = .int .i64 k ∧ ∃ vc, GrpAt w1 wr (.slice am M.length cm) (.slice ax S.length cx) vc (zerosL k)) (fun vi _ => nd - (intOf vi).toNat)
  case atStart => exact ⟨0, Nat.zero_le _, rfl, _, HG1.out⟩
  case round =>
    clear HG1
    obtain ⟨k, hk, rfl, vc, hG⟩ := hrel
    have HG := Lib.hid hG
    have HZL := Lib.hid (zerosL_len k)
    by_cases hlt : k < nd
    · have e2 := cell_of_row _ _ 2 _ _ _ hG.blk
      have l0 := own_lt0 hG.blk
      have HG2 := Lib.hid (hG.frame ((Only.refl (fun _ => False) wr).alloc (.cells #[.int .i64 0] 3)))
      have hown2 := HG2.out.own
      rw [HZL.out] at hown2
      have HZN := Lib.hid (zerosL_succ k)
      obtain ⟨av, cv, rfl⟩ := slice_of_own hown2
      generalize hL : zerosL k = L at *
      clear hG hL
      go_wp2_with (at_builtin; refine wpList_append_lies _ rfl _ _ 22 rfl (w1.heap.size + 1) 3 i0 _ 1 8 Tryz.underlying22 hi0 hz0 hz1 hz2 rfl (by decide) _ k (irow L) rfl hown2 ⟨wr.heap.size, 0, none⟩ 1 1 [.int .i64 0] rfl rfl (cell_one_new _ _ _) (one_int _) (by decide) ?c1 ?c2 ?c3 _ rfl ?_)
      case c1 => unfold maxLen; omega
      case c2 => omega
      case c3 => first | omega | (simp; omega)
      intro g1 cp1 w3 ho1 hg1 ha1 hgl1
      obtain ⟨hb3, hG3⟩ := HG2.out.more HZL.out ho1 hg1
      have HG3 := Lib.hid hG3
      have c2 := cell_of_row _ _ 2 _ _ _ hb3
      have f2 := frozen_of_row _ _ 2 _ _ hb3
      have l3 := own_lt0 hb3
      clear ho1 hg1 ha1 hown2 hG3 hb3 e2
      go_wp2
      go_roundw
      case rel => exact ⟨k + 1, by omega, by go_num, _, by rw [HZN.out]; exact HG3.out⟩
      case measure => simp [intOf]; omega
    · obtain rfl : k = nd := by omega
      have i1 : ¬ (k : Int) < k := by omega
      obtain ⟨g, cg, rfl, hgl, hgc, hgc2, hgcell⟩ := own_cells hG.own (HZL.out) hnd1
      have e0 := cell_of_row _ _ 0 _ _ _ hG.blk
      have l0 := own_lt0 hG.blk
      have hMs := HM.out.only hG.only
      obtain ⟨bm, om, rfl, hbm, hcm, hcm2, hmc⟩ : ∃ b off, am = some ⟨b, off, none⟩ ∧ b < w1.heap.size ∧ M.length ≤ cm ∧ cm ≤ 9223372036854775807 ∧ ∀ j, j < M.length → w1.cell? ⟨b, off + j * 3, none⟩ = some (.int .i64 (mbAt M j).id) ∧ w1.cell? ⟨b, off + j * 3 + 1, none⟩ = some (.int .i64 (mbAt M j).wt) ∧ w1.cell? ⟨b, off + j * 3 + 2, none⟩ = some (.int .i64 (mbAt M j).pb) := by
        rcases HM.out with ⟨_, _, _, h0⟩ | ⟨b, off, cap, hv, hb, h1, h2, hc⟩
        · rw [h0] at hM1; simp at hM1
        · simp only [Value.slice.injEq, true_and] at hv
          obtain ⟨rfl, rfl⟩ := hv
          exact ⟨b, off, rfl, hb, h1, h2, hc⟩
      have HMC := Lib.hid (fun (w' : World) (hO : Only (fun _ => False) w1 w') j hj => (⟨hO.cell (hmc j hj).1 id, hO.cell (hmc j hj).2.1 id, hO.cell (hmc j hj).2.2 id⟩ : w'.cell? ⟨bm, om + j * 3, none⟩ = some (.int .i64 (mbAt M j).id) ∧ w'.cell? ⟨bm, om + j * 3 + 1, none⟩ = some (.int .i64 (mbAt M j).wt) ∧ w'.cell? ⟨bm, om + j * 3 + 2, none⟩ = some (.int .i64 (mbAt M j).pb)))
      have hbr : bm < wr.heap.size := by have := hG.only.size; omega
      clear hG hMs hmc hlt hk hgcell
      go_wp2_with fail
      refine (rdealings_some bm om cm M ⟨#[102, 105, 114, 115, 116]⟩ k wr hbr hcm hcm2 HOK.out (by decide) (HMC.out wr HG.out.only)).mono ?_
      rintro e wd ⟨vd, qs, rfl, hDs, hqs⟩
      have HQ := Lib.hid (show qs.map (·.2.1) = dealsZ zs by rw [hqs, HDE.out]; rfl)
      have HDS := Lib.hid hDs.mine
      have HG2 := Lib.hid (HG.out.frame hDs.only)
      have hwd := hDs.only.size
      obtain ⟨ad, cd, rfl⟩ := slice_of_own hDs.own
      have hql : qs.length = M.length := by have := congrArg List.length hqs; rw [List.length_map, dlsTo_len] at this; exact this
      have HQ2 := Lib.hid hqs
      rw [hql] at HDS ⊢
      obtain ⟨B, hB⟩ : ∃ B, wr.heap.size = B := ⟨_, rfl⟩
      rw [hB] at HDS hgl hwd
      have hw1B : w1.heap.size < B := by have := own_lt0 HG.out.blk; omega
      clear hDs hqs hql HG e0 l0 hB hbr
      go_wp2_with fail
      go_loopw [9] (fun vi wr => ∃ i : Nat, i ≤ M.length ∧ vi = .int .i64 i ∧ GrpAt w1 wr (.slice (some ⟨bm, om, none⟩) M.length cm) (.slice ax S.length cx) (.slice (some ⟨g, 0, none⟩) k cg) (coefTo M k i) ∧ DsOwn B wr (.slice ad M.length cd) qs ∧ B ≤ wr.heap.size) (fun vi _ => M.length - (intOf vi).toNat)
      case atStart => exact ⟨0, Nat.zero_le _, rfl, HG2.out, HDS.out, hwd⟩
      case round =>
        clear HG2 HDS hwd
        obtain ⟨i, hi, rfl, hG, hDs, hBr⟩ := hrel
        have HG := Lib.hid hG
        have HDS := Lib.hid hDs
        by_cases hlt : i < M.length
        · obtain ⟨x0, _, _⟩ := HMC.out wr hG.only i hlt
          obtain ⟨id0, id1⟩ := HOK.out.id i hlt
          have HCN := Lib.hid (show coefTo M k (i + 1) = addTo (coefTo M k i) (polyTo (seedOf M i) k) k from rfl)
          have HSD := Lib.hid (show seedOf M i = dlSeed firstS (mbAt M i).id.toNat from rfl)
          obtain ⟨idn, hidn⟩ : ∃ idn : Nat, (mbAt M i).id = idn := ⟨(mbAt M i).id.toNat, by omega⟩
          have hid2 : idn < 9223372036854775808 := by omega
          have s1 : (decB idn).size ≤ 21 := decB_size hid2
          rw [hidn] at x0 HSD
          rw [Int.toNat_natCast] at HSD
          have HT := Lib.hid (fun w => rtext8_any idn w hid2)
          have HSS := Lib.hid (show (⟨#[102, 105, 114, 115, 116, 32]⟩ : ByteArray) ++ decB idn = dlSeed firstS idn from firstS_eq _)
          have hb1 : (⟨#[102, 105, 114, 115, 116, 32]⟩ : ByteArray).size = 6 := rfl
          have HPL := Lib.hid (fun w => rpoly_any (dlSeed firstS idn) k w (by rw [← HSS.out, ByteArray.size_append, hb1]; omega) (by omega))
          rw [← HSS.out] at HPL HSD
          rw [HSD.out] at HCN
          generalize decB idn = dn at *
          have HPN := Lib.hid (polyTo_len (⟨#[102, 105, 114, 115, 116, 32]⟩ ++ dn) k)
          generalize polyTo (⟨#[102, 105, 114, 115, 116, 32]⟩ ++ dn) k = P at *
          have HLL := Lib.hid (coefTo_len M k i)
          generalize coefTo M k i = L at *
          have i1 : (i : Int) < M.length := by omega
          have hbr : bm < wr.heap.size := by have := hG.only.size; omega
          clear hG hDs id0 id1 hidn hi HSD HSS
          go_wp2_with fail
          refine (HT.out _).mono ?_
          rintro e w3 ⟨rfl, hO3⟩
          have HG3 := Lib.hid (HG.out.frame hO3)
          have HD3 := Lib.hid (HDS.out.keep hO3 (fun _ _ h => h))
          have hs3 := hO3.size
          clear hO3 HG HDS x0 hbr
          go_wp2_with fail
          refine (HPL.out _).mono ?_
          rintro e w4 ⟨vP, rfl, hownP, hO4⟩
          have HG4 := Lib.hid (HG3.out.frame hO4)
          have HD4 := Lib.hid (HD3.out.keep hO4 (fun _ _ h => h))
          have hs4 := hO4.size
          obtain ⟨C, hC⟩ : ∃ C, w3.heap.size = C := ⟨_, rfl⟩
          rw [hC] at hownP hs4 hs3
          have HP4 := Lib.hid hownP
          obtain ⟨gp, cp, rfl, hgp, hgp1, hgp2, _⟩ := own_cells hownP HPN.out hnd1
          have hgpC : C ≤ gp := own_low' hownP rfl
          clear hownP hO4 hC HG3 HD3 hgp
          go_wp2_with fail
          go_loopw [11] (fun vj wi => ∃ j : Nat, j ≤ k ∧ vj = .int .i64 j ∧ GrpAt w1 wi (.slice (some ⟨bm, om, none⟩) M.length cm) (.slice ax S.length cx) (.slice (some ⟨g, 0, none⟩) k cg) (addTo L P j) ∧ DsOwn B wi (.slice ad M.length cd) qs ∧ C ≤ wi.heap.size ∧ wi.ownsRow C 3 1 (.slice (some ⟨gp, 0, none⟩) k cp) P.length (irow P)) (fun vj _ => k - (intOf vj).toNat)
          case atStart => exact ⟨0, Nat.zero_le _, rfl, HG4.out, HD4.out, hs4, HP4.out⟩
          case round =>
            clear HG4 HD4 HP4 hs4
            obtain ⟨j, hj, rfl, hG, hDs, hCr, hownP⟩ := hrel
            by_cases hjl : j < k
            · have e2 := cell_of_row _ _ 2 _ _ _ hG.blk
              have l0 := own_lt0 hG.blk
              have HAL := Lib.hid (show (addTo L P j).length = k by rw [addTo_len, HLL.out])
              obtain ⟨g1, _, _, gc, gf⟩ := own_at hG.own HAL.out hjl
              obtain ⟨p1, _, _, pc, _⟩ := own_at hownP HPN.out hjl
              rw [addTo_at L P j j (Nat.le_refl _)] at gc
              have HAN := Lib.hid (show addTo L P (j + 1) = (addTo L P j).set j ((ptAt L j + ptAt P j) % 1152921504606845789) from rfl)
              have HPUT := Lib.hid (fun m z => (show GrpAt w1 (wr.drewN m) _ _ _ _ from hG.frame ((Only.refl _ wr).drewN m)).put (z := z) HAL.out hjl)
              have HDS := Lib.hid (fun m => hDs.keep ((Only.refl (fun _ => False) wr).drewN m) (fun _ _ h => h))
              have HOP := Lib.hid (fun m => owns_drewN m hownP)
              have i1 : (j : Int) < k := by omega
              have i2 : 0 ≤ (j : Int) := by omega
              have i3 : gp ≠ g := by omega
              generalize ptAt L j = lz at *
              generalize ptAt P j = pz at *
              clear hG hDs hownP hj
              go_wp2_with fail
              refine wp_region_quiet_split 14 (by kernel_rfl) (by kernel_rfl) (by kernel_rfl) ?_
              simp only [List.take_succ_cons, List.take_zero, List.drop_succ_cons, List.drop_zero]
              repeat (go_big_quiet_step ((go_at_call 36; exact quiet_left (radd_any _ _ _ _ (by decide) (by decide)))))
              refine wpQuiet_nil ?_
              intro _ hw'
              obtain ⟨nq, hw''⟩ := hw'
              subst hw''
              obtain ⟨q1, q2, q3⟩ := HPUT.out nq ((lz + pz) % 1152921504606845789)
              have HQ1 := Lib.hid q1
              have HQ2 := Lib.hid ((HDS.out nq).keep q2 (fun x hx e => by omega))
              have HQ3 := Lib.hid (q2.owns (HOP.out nq) (fun x hx e => i3 ((show gp = x by simpa [Value.ownBlock] using hx).trans e)))
              have HQ4 := Lib.hid (show C ≤ _ from Nat.le_trans hCr q2.size)
              clear q1 q2 q3 HPUT
              go_wp2
              go_roundw
              case rel => exact ⟨j + 1, by omega, by go_num, by rw [HAN.out]; exact HQ1.out, HQ2.out, HQ4.out, HQ3.out⟩
              case measure => simp [intOf]; omega
            · obtain rfl : j = k := by omega
              have i2 : ¬ (j : Int) < j := by omega
              have HG := Lib.hid hG
              have HDS := Lib.hid hDs
              clear hG hDs hownP hjl
              go_wp2
              go_roundw
              case rel => exact ⟨i + 1, by omega, by go_num, by rw [HCN.out]; exact HG.out, HDS.out, by omega⟩
              case measure => simp [intOf]; omega
        · obtain rfl : i = M.length := by omega
          have i1 : ¬ (M.length : Int) < M.length := by omega
          clear hG hDs hlt hi
          have e0 := cell_of_row _ _ 0 _ _ _ HG.out.blk
          have l0 := own_lt0 HG.out.blk
          obtain ⟨ht, hn⟩ := crew_tot HR.out HOK.out
          have HBG := Lib.hid (rbegin_yes _ _ M (qs.map (·.2.1)) (boxTo M M.length).length k wr (HM.out.only HG.out.only) HOK.out.w HR.out (HDS.out.dls (deals_len HQ2.out hnd2 HOK.out.many)) ht (by have := HOK.out.nd2; omega) (by have := HOK.out.many; omega) hn (by omega) (by rw [HQ2.out, dlsTo_len]; exact hM1) (by rw [HQ2.out, dlsTo_len]; omega) (fun j hj => by
            rw [HQ2.out] at hj ⊢
            rw [dlsTo_len] at hj
            rw [dlsTo_at _ _ _ _ _ hj]
            exact dl_ok M _ k _ j hnd1 HOK.out.nd2 rfl))
          rw [HQ.out] at HBG
          clear ht hn
          go_wp2_with fail
          refine HBG.out.mono ?_
          rintro e w5 ⟨hO5, vk, vp, rfl, hownK, us, hgr⟩
          have HG5 := Lib.hid (HG.out.frame hO5)
          have c3 := cell_of_row _ _ 3 _ _ _ HG5.out.blk
          have c4 := cell_of_row _ _ 4 _ _ _ HG5.out.blk
          have f3 := frozen_of_row _ _ 3 _ _ HG5.out.blk
          have f4 := frozen_of_row _ _ 4 _ _ HG5.out.blk
          have l5 := own_lt0 HG5.out.blk
          have hR : w.heap.size < w1.heap.size := own_lt0 HZ1.out
          obtain ⟨ak, ck, rfl⟩ := slice_of_own hownK
          obtain ⟨ap, cp, rfl⟩ := slice_of_own hgr.out
          generalize hkl : (mixL (dealsZ zs) (onesL (dealsZ zs).length) k).length = kl at *
          have hO56 : Only (fun i => i = w1.heap.size) w5 ((w5.setCell ⟨w1.heap.size, 3, none⟩ (.slice ak kl ck)).setCell ⟨w1.heap.size, 4, none⟩ (.slice ap us.length cp)) := ((Only.refl (fun i => i = w1.heap.size) w5).setCell (p := ⟨w1.heap.size, 3, none⟩) (.inl rfl) _).setCell (p := ⟨w1.heap.size, 4, none⟩) (.inl rfl) _
          have HB6 := Lib.hid (show ((w5.setCell ⟨w1.heap.size, 3, none⟩ (.slice ak kl ck)).setCell ⟨w1.heap.size, 4, none⟩ (.slice ap us.length cp)).heap[w1.heap.size]? = some (.cells #[.slice (some ⟨bm, om, none⟩) M.length cm, .slice ax S.length cx, .slice (some ⟨g, 0, none⟩) k cg, .slice ak kl ck, .slice ap us.length cp] 30 (0, 0)) from heap_setCell_same _ w1.heap.size 4 _ _ (.slice ap us.length cp) (heap_setCell_same _ w1.heap.size 3 _ _ (.slice ak kl ck) HG5.out.blk))
          have HZ6 := Lib.hid ((hO56.block w.heap.size (by omega) (fun e => by omega)).trans (row_still HG5.out.only HZ1.out))
          have HOW6 := Lib.hid (hO56.owns HG5.out.own (fun x hx e => by have := own_low' HG5.out.own hx; omega))
          have HOK6 := Lib.hid (hO56.owns hownK (fun x hx e => by have := own_low' hownK hx; omega))
          have HGR6 := Lib.hid (hgr.keep hO56 (fun x hx e => by omega))
          have HO16 := Lib.hid (HG5.out.only.trans' hO56 (fun i hi e => by omega))
          have HPOST := Lib.hid (show ∀ w7, Only (fun i => i = w.heap.size) ((w5.setCell ⟨w1.heap.size, 3, none⟩ (.slice ak kl ck)).setCell ⟨w1.heap.size, 4, none⟩ (.slice ap us.length cp)) w7 → MadePost w zs (.returned (.agg #[.slice (some ⟨bm, om, none⟩) M.length cm, .slice ax S.length cx, .slice (some ⟨g, 0, none⟩) k cg, .slice ak kl ck, .slice ap us.length cp])) w7 from fun w7 hO7 => by
            have hint := nils_ints HZ6.out
            refine ⟨(HO1.out.trans HO16.out).trans' hO7 (fun i hi e => by omega), _, _, _, _, _, rfl, ?_, ?_, ?_, ?_, ?_⟩
            · rw [hcrew]; exact mbs_kept hO7 hint (HM.out.only HO16.out)
            · rw [hsec]; exact pts_kept hO7 hint (HS.out.only HO16.out)
            · rw [HCO.out]; exact pts_of_own (hO7.owns HOW6.out (fun x hx e => by have := own_low' HOW6.out hx; omega)) (by rw [coefTo_len]; omega)
            · rw [HCM.out]
              have h1 := hO7.owns HOK6.out (fun x hx e => by have := own_low' HOK6.out hx; omega)
              rw [← hkl] at h1
              exact pts_of_own (by rw [← hkl]; exact h1) (by rw [mixL_len]; omega)
            · rw [hcrew]; exact points_grid (HGR6.out.keep hO7 (fun x hx e => by omega)) HR.out)
          clear hO5 hownK hgr hO56 HOW6 HOK6 HGR6
          go_wp2_with (first | (refine wpList_load_row rfl 30 _ rfl w1.heap.size rfl 30 #[.slice (some ⟨bm, om, none⟩) M.length cm, .slice ax S.length cx, .slice (some ⟨g, 0, none⟩) k cg, .slice ak kl ck, .slice ap us.length cp] (0, 0) _ HB6.out Tryz.underlying30 rfl Tryz.infoG ?_) | (refine wpList_store_row rfl 30 _ _ rfl w.heap.size #[.slice (some ⟨bm, om, none⟩) M.length cm, .slice ax S.length cx, .slice (some ⟨g, 0, none⟩) k cg, .slice ak kl ck, .slice ap us.length cp] rfl rfl 30 _ HZ6.out Tryz.infoG rfl (five_slices _ _ _ _ _ _ _ _ _ _ _ _ _ _ _) ?_))
          refine bodyPost_ret (v := .agg #[.slice (some ⟨bm, om, none⟩) M.length cm, .slice ax S.length cx, .slice (some ⟨g, 0, none⟩) k cg, .slice ak kl ck, .slice ap us.length cp]) (results_cell_row rfl _ _ w.heap.size 30 #[.slice (some ⟨bm, om, none⟩) M.length cm, .slice ax S.length cx, .slice (some ⟨g, 0, none⟩) k cg, .slice ak kl ck, .slice ap us.length cp] (0, 0) _ rfl (setRow_heap _ _ _ _ _ _ HZ6.out) Tryz.underlying30 rfl Tryz.infoG) rfl (HPOST.out _ ?_)
          exact (Only.refl (fun k => k = w.heap.size) ((w5.setCell ⟨w1.heap.size, 3, none⟩ (.slice ak kl ck)).setCell ⟨w1.heap.size, 4, none⟩ (.slice ap us.length cp))).trans' (T := fun k => k = w.heap.size) ⟨rfl, rfl, rfl, by simp, fun k _ hk => heap_setRow_other _ _ _ _ hk⟩ (fun _ _ e => e)
end Go.Proofs.YtalclldccnichaaGreat

namespace Go.Proofs.YtalclldccnichaaGreat
open Go.RowKit

theorem Tryz.infoSh : (Tryz.prog.info? 53).map (·.size) = some 2 := by kernel_rfl
theorem two_ints (a b : Int) : (#[Value.int .i64 a, .int .i64 b] : Array Value).all (·.oneCell') = true := by simp [Value.oneCell']
set_option maxRecDepth 100000 in
set_option maxHeartbeats 1000000 in
theorem rgat_any (a0 a1 a2 a3 a4 : Option Addr) (n0 n1 n3 n4 c0 c1 c2 c3 c4 : Nat) (cs : List Int) (x : Int) (w : World) (hC : PtsAt w.heap.size w (.slice a2 cs.length c2) cs) (hlen : cs.length ≤ 1000000) :
    Calls Tryz.prog 22 #[.agg #[.slice a0 n0 c0, .slice a1 n1 c1, .slice a2 cs.length c2, .slice a3 n3 c3, .slice a4 n4 c4], .int .i64 x] w fun e w' => e = .returned (.agg #[.int .i64 x, .int .i64 (valZ cs x)]) ∧ Only (fun _ => False) w w' := by
  have hA := ((Only.refl (fun _ => False) w).alloc (.cells #[.slice a0 n0 c0, .slice a1 n1 c1, .slice a2 cs.length c2, .slice a3 n3 c3, .slice a4 n4 c4] 30)).alloc (.cells #[.int .i64 0, .int .i64 0] 53)
  have HA := Lib.hid hA
  have HV := Lib.hid (rvalue_any _ cs x _ (hC.only hA) hlen)
  have HZ := Lib.hid (heap_alloc_last (w.alloc (.cells #[.slice a0 n0 c0, .slice a1 n1 c1, .slice a2 cs.length c2, .slice a3 n3 c3, .slice a4 n4 c4] 30)) (.cells #[.int .i64 0, .int .i64 0] 53))
  generalize valZ cs x = z at *
  clear hC hA
  go_enter Tryz.func22, Tryz.ntmps22
  go_wp2_with fail
  refine HV.out.mono ?_
  rintro e w1 ⟨rfl, nq, rfl⟩
  have HO := Lib.hid (HA.out.drewN nq)
  rw [World.size_alloc] at HZ
  have HZ2 := Lib.hid (row_still ((Only.refl (fun _ => False) _).drewN nq) HZ.out)
  clear HA HZ HV
  go_wp2_with (first | (refine wpList_store_row rfl 53 _ _ rfl (w.heap.size + 1) #[.int .i64 x, .int .i64 z] rfl rfl 53 _ HZ2.out Tryz.infoSh rfl (two_ints _ _) ?_))
  exact bodyPost_ret (v := .agg #[.int .i64 x, .int .i64 z]) (results_cell_row rfl _ _ (w.heap.size + 1) 53 #[.int .i64 x, .int .i64 z] (0, 0) _ rfl (setRow_heap _ _ _ _ _ _ HZ2.out) Tryz.underlying53 rfl Tryz.infoSh) rfl ⟨rfl, HO.out.setRow (by omega) _⟩

/-- What is chosen, and what is left. -/
def choTo (zs L0 : List Int) : Nat → List Int × List Int
  | 0 => ([], L0)
  | t + 1 => ((choTo zs L0 t).1 ++ [ptAt (choTo zs L0 t).2 (nxT zs t (choTo zs L0 t).2.length).toNat], (choTo zs L0 t).2.take (nxT zs t (choTo zs L0 t).2.length).toNat ++ (choTo zs L0 t).2.drop ((nxT zs t (choTo zs L0 t).2.length).toNat + 1))
theorem choTo_len (zs L0 : List Int) : ∀ t, t ≤ L0.length → (choTo zs L0 t).1.length = t ∧ (choTo zs L0 t).2.length = L0.length - t
  | 0, _ => ⟨rfl, rfl⟩
  | t + 1, h => by
    obtain ⟨h1, h2⟩ := choTo_len zs L0 t (by omega)
    have hb := nxT_bd zs t (choTo zs L0 t).2.length (by omega)
    rw [choTo]
    refine ⟨by rw [List.length_append, h1]; rfl, ?_⟩
    rw [List.length_append, List.length_take, List.length_drop]
    omega
/-- The points that are chosen are different, and of the list. -/
theorem choTo_perm (zs L0 : List Int) : ∀ t, t ≤ L0.length → ((choTo zs L0 t).1 ++ (choTo zs L0 t).2).Perm L0
  | 0, _ => List.Perm.refl _
  | t + 1, h => by
    obtain ⟨h1, h2⟩ := choTo_len zs L0 t (by omega)
    have ih := choTo_perm zs L0 t (by omega)
    have hb := nxT_bd zs t (choTo zs L0 t).2.length (by omega)
    rw [choTo]
    generalize (choTo zs L0 t).1 = O at *
    generalize (choTo zs L0 t).2 = R at *
    obtain ⟨k, hk⟩ : ∃ k, (nxT zs t R.length).toNat = k := ⟨_, rfl⟩
    rw [hk]
    have hkl : k < R.length := by omega
    refine List.Perm.trans ?_ ih
    have e : R = R.take k ++ ptAt R k :: R.drop (k + 1) := by
      conv => lhs; rw [← List.take_append_drop k R]
      congr 1
      rw [List.drop_eq_getElem_cons hkl]
      unfold ptAt
      simp [List.getD, hkl]
    conv => rhs; rw [e]
    simp only [List.append_assoc, List.singleton_append]
    exact List.Perm.append_left O List.perm_middle.symm
section
variable {P : Program} (w : World)
/-- An append at a step of a region that draws, whatever is appended: nothing, too. -/
theorem step_append_at {ops : Array Oper} {o : Oper} {a : Act} {K : Act → World → Prop} {Q : Exit → Act → World → Prop} {E : Prop} (hgd : o.guard = none) (s x : Operand) (t : TypeId)
    (ho : o.op = .call { callee := .builtin .append, args := #[s, x], argTypes := #[t, t] })
    (base : Nat) (e : TypeId) (i : TypeInfo) (z : Value) (size bytes : Nat) (ht : P.underlying t = some (.slice e)) (hi : P.info? e = some i) (hz : i.zero = some z)
    (hsize : i.size = size) (hby : i.bytes = bytes) (hzs : z.cells.size = size) (hsz : 0 < size)
    (v : Value) (n : Nat) (xs : List Value) (hs : a.eval s = v) (hown : w.ownsRow base e size v n xs)
    (ad : Addr) (m c : Nat) (news : List Value) (hx : a.eval x = .slice (some ad) m c) (hl : news.length = m * size) (hnews : ∀ j u, news[j]? = some u → w.cell? (ad.add j) = some u) (h1 : ∀ u ∈ news, u.oneCell' = true)
    (h63 : n + m ≤ maxLen) (hbytes : (n + m) * bytes ≤ 140737488355328) (hbase : base ≤ w.heap.size)
    (h : ∀ v' w', w'.ownsRow base e size v' (n + m) (xs ++ news) → w.grownBy w' v.ownBlock → K (a.put o.dst v') w') :
    if Region.wanted o (yielded ops a.tmps) = true then Oper.wp P o a w K Q else E := by
  have hw : Region.wanted o (yielded ops a.tmps) = true := by simp [Region.wanted, hgd]
  rw [if_pos hw]
  obtain ⟨v', w', hr, h2, h3, _, _⟩ := run_append_own_at (P := P) w base t o.type e i z size bytes ht hi hz hsize hby hzs hsz v n xs hown ad m c news hl hnews h1 h63 hbytes hbase
  unfold Oper.wp execOp
  simp only [ho, resolve, invoke, builtin, Sem.run_bind, Sem.run_pure, Result.andThen_ok, List.map_toArray, List.map_cons, List.map_nil, hs, hx, hr]
  exact h v' w' h2 h3
end
/-- The state of Chosen: B is the receiver's block, g that of the numbers. -/
structure ChoAt (w wr : World) (g : Nat) (sv vo vr : Value) (row : Array Value) (O R zs : List Int) (t : Nat) : Prop where
  num : NumAt wr g sv zs t
  out : wr.ownsRow (w.heap.size + 1) 3 1 vo O.length (irow O)
  rest : wr.ownsRow (w.heap.size + 1) 3 1 vr R.length (irow R)
  ne : ∀ k, vo.ownBlock = some k → vr.ownBlock ≠ some k
  no : vo.ownBlock ≠ some g
  nr : vr.ownBlock ≠ some g
  low : w.heap.size < g
  blk : wr.heap[w.heap.size]? = some (.cells row 30 (0, 0))
  pts : PtsAt w.heap.size w sv zs
  only : Only (fun _ => False) w wr
theorem ChoAt.next {w wr w' : World} {g t : Nat} {sv vo vr : Value} {row : Array Value} {O R zs : List Int} (h : ChoAt w wr g sv vo vr row O R zs t) (hN : NumAt w' g sv zs (t + 1)) (hO : Only (fun i => i = g) wr w') : ChoAt w w' g sv vo vr row O R zs (t + 1) :=
  ⟨hN, hO.owns h.out (fun k hk e => h.no (by rw [hk, show k = g from e])), hO.owns h.rest (fun k hk e => h.nr (by rw [hk, show k = g from e])), h.ne, h.no, h.nr, h.low, (hO.block _ (own_lt0 h.blk) (fun e => by have := h.low; omega)).trans h.blk, h.pts, h.only.trans' hO (fun i hi e => by have := h.low; omega)⟩
theorem ChoAt.frame {w wr w' : World} {g t : Nat} {sv vo vr : Value} {row : Array Value} {O R zs : List Int} (h : ChoAt w wr g sv vo vr row O R zs t) (hO : Only (fun _ => False) wr w') : ChoAt w w' g sv vo vr row O R zs t :=
  ⟨h.num.only hO, hO.owns h.out (fun _ _ h => h), hO.owns h.rest (fun _ _ h => h), h.ne, h.no, h.nr, h.low, row_still hO h.blk, h.pts, h.only.trans hO⟩
theorem ChoAt.push {w wn w' : World} {g t : Nat} {sv vo vr : Value} {row : Array Value} {O R zs : List Int} (h : ChoAt w wn g sv vo vr row O R zs t) {x : Int} {k gg cap : Nat} (hk : O.length = k)
    (hown : w'.ownsRow (w.heap.size + 1) 3 1 (.slice (some ⟨gg, 0, none⟩) (k + 1) cap) (k + 1) (irow O ++ [.int .i64 x])) (hg : wn.grownBy w' vo.ownBlock) (hat : vo.ownBlock = some gg ∨ gg = wn.heap.size) :
    ChoAt w w' g sv (.slice (some ⟨gg, 0, none⟩) (k + 1) cap) vr row (O ++ [x]) R zs t := by
  subst hk
  have hO : Only (fun k => vo.ownBlock = some k) wn w' := (Only.refl _ wn).grown hg (fun k e _ => e)
  have hon : Only (fun _ => False) w w' := h.only.trans' hO (fun i hi hp => by have := own_low' h.out hp; omega)
  have hgb : (Value.slice (some ⟨gg, 0, none⟩) (O.length + 1) cap).ownBlock = some gg := rfl
  refine ⟨⟨(hO.block g (own_lt0 h.num.blk) h.no).trans h.num.blk, h.pts.only hon, h.num.far⟩, ?_, hO.owns h.rest (fun k hq hp => h.ne k hp hq), ?_, ?_, h.nr, h.low, (hO.block _ (own_lt0 h.blk) (fun e => by have := own_low' h.out e; omega)).trans h.blk, h.pts, hon⟩
  · rw [List.length_append, List.length_singleton, irow_append]; exact hown
  · intro k hk hq
    rw [hgb] at hk
    obtain rfl : gg = k := by simpa using hk
    rcases hat with hat | hat
    · exact h.ne gg hat hq
    · have := (own_lt h.rest hq).1; omega
  · rw [hgb]
    intro e
    obtain rfl : gg = g := by simpa using e
    rcases hat with hat | hat
    · exact h.no hat
    · have := own_lt0 h.num.blk; omega
theorem ChoAt.cut {w wn w' : World} {g t m : Nat} {sv vo vr vr' : Value} {row : Array Value} {O R R' zs : List Int} (h : ChoAt w wn g sv vo vr row O R zs t) (hR : R'.length = m) (hO : Only (fun _ => False) wn w') (hown : w'.ownsRow wn.heap.size 3 1 vr' m (irow R')) : ChoAt w w' g sv vo vr' row O R' zs t := by
  subst hR
  have h' := h.frame hO
  have hs := own_lt0 h.blk
  exact ⟨h'.num, h'.out, own_base hown (by omega), fun k hk hq => by have := (own_lt h.out hk).1; have := own_low' hown hq; omega, h'.no, fun e => by have := own_low' hown e; have := own_lt0 h.num.blk; omega, h.low, h'.blk, h.pts, h'.only⟩
theorem own_news {w w' : World} {base n k m g cap : Nat} {L : List Int} (h : w.ownsRow base 3 1 (.slice (some ⟨g, 0, none⟩) n cap) L.length (irow L)) (hO : Only (fun _ => False) w w') (hk : k + m ≤ L.length) (hn : L.length = n) :
    ∀ j u, (irow ((L.drop k).take m))[j]? = some u → w'.cell? ((⟨g, k, none⟩ : Addr).add j) = some u := by
  intro j u hu
  have hadd : (⟨g, k, none⟩ : Addr).add j = ⟨g, k + j, none⟩ := by unfold Addr.add; split <;> simp_all
  rw [hadd]
  by_cases hj : j < m
  · obtain ⟨_, _, _, hc, _⟩ := own_at (j := k + j) h hn (by omega)
    rw [hO.cell hc id]
    rw [← hu]
    unfold irow
    rw [List.getElem?_map, List.getElem?_take_of_lt hj, List.getElem?_drop]
    unfold ptAt
    rw [List.getElem?_eq_getElem (show k + j < L.length by omega)]
    simp [List.getD, show k + j < L.length by omega]
  · have : (irow ((L.drop k).take m))[j]? = none := by
      unfold irow
      rw [List.getElem?_map, List.getElem?_eq_none (by rw [List.length_take, List.length_drop]; omega)]; rfl
    rw [this] at hu; simp at hu
theorem cho_only1 {w w' : World} {o : Obj} {n c : Nat} (hg : ((w.alloc o).drew).grownBy w' (Value.slice (some ⟨w.heap.size, 0, none⟩) n c).ownBlock) : Only (fun _ => False) w w' :=
  (((Only.refl (fun _ => False) w).alloc o).drew).trans' ((Only.refl (fun k => k = w.heap.size) _).grown hg (fun k e _ => by simpa [Value.ownBlock] using e.symm)) (fun i hi e => by omega)
theorem cho_only2 {w w4 w' : World} {v : Value} {e s n : Nat} {xs : List Value} (hO : Only (fun _ => False) w w4) (hown : w4.ownsRow w.heap.size e s v n xs) (hg : w4.grownBy w' v.ownBlock) : Only (fun _ => False) w w' :=
  hO.trans' ((Only.refl (fun k => v.ownBlock = some k) _).grown hg (fun k e _ => e)) (fun i hi e => by have := own_low' hown e; omega)
theorem irow_ones (L : List Int) : ∀ u ∈ irow L, u.oneCell' = true := irow_one L

/-- The length of a slice. -/
def lenV : Value → Nat
  | .slice _ n _ => n
  | _ => 0
/-- What Chosen returns. -/
def choZ (zs : List Int) (n nd : Nat) : List Int := (choTo zs (upI 0 n) nd).1

set_option maxRecDepth 100000 in
set_option maxHeartbeats 2000000 in
theorem rchosen_any (a1 a2 a3 a4 : Option Addr) (n1 n2 n4 c1 c2 c3 c4 : Nat) (sv vm : Value) (l : List Mb) (zs : List Int) (n nd : Nat) (w : World) (hM : MbsAt w vm l) (hw : MbsW l) (ht : totZ l = n) (hnd : nd ≤ n) (hn2 : n ≤ 60) (hI : PtsAt w.heap.size w sv zs) (hlen : zs.length ≤ 9223372036854775807) :
    Calls Tryz.prog 17 #[.agg #[vm, .slice a1 n1 c1, .slice a2 n2 c2, .slice a3 nd c3, .slice a4 n4 c4], sv] w (ListPost w (choZ zs n nd)) := by
  obtain ⟨i0, hi0, hz0, hz1, hz2⟩ := info_parts Tryz.infoI
  obtain ⟨a, c, rfl⟩ := hI.slice
  obtain ⟨am, cm, rfl⟩ := hM.slice
  have hA := (Only.refl (fun _ => False) w).alloc (.cells #[.slice am l.length cm, .slice a1 n1 c1, .slice a2 n2 c2, .slice a3 nd c3, .slice a4 n4 c4] 30)
  have HA := Lib.hid hA
  have HT := Lib.hid (fun (w' : World) (hO : Only (fun _ => False) w w') => rtotal_any _ l n w' hw (hM.only hO) ht)
  have HB := Lib.hid (heap_alloc_last w (.cells #[.slice am l.length cm, .slice a1 n1 c1, .slice a2 n2 c2, .slice a3 nd c3, .slice a4 n4 c4] 30))
  have HI := Lib.hid hI
  clear hA hI hM hw ht
  go_enter Tryz.func17, Tryz.ntmps17
  go_wp2_with fail
  go_loopw [5, 6] (fun vo vi wr => ∃ k : Nat, k ≤ n ∧ vi = .int .i64 ((k : Int) + 1) ∧ wr.ownsRow (w.heap.size + 1) 3 1 vo k (irow (upI 0 k)) ∧ wr.heap[w.heap.size]? = some (.cells #[.slice am l.length cm, .slice a1 n1 c1, .slice a2 n2 c2, .slice a3 nd c3, .slice a4 n4 c4] 30 (0, 0)) ∧ Only (fun _ => False) w wr) (fun _ vi _ => n + 1 - (intOf vi).toNat)
  case atStart => exact ⟨0, Nat.zero_le _, rfl, World.ownsRow_nil _ _ _ _, HB.out, HA.out⟩
  case round =>
    clear HA HB
    obtain ⟨k, hk, rfl, hown, hB, hO⟩ := hrel
    have HO := Lib.hid hO
    have HOWN := Lib.hid hown
    have HB := Lib.hid hB
    have e0 := cell_of_row _ _ 0 _ _ _ hB
    have l0 := own_lt0 hB
    obtain ⟨av, cv, rfl⟩ := slice_of_own hown
    clear hO hown hB
    go_wp2_with fail
    refine (HT.out wr HO.out).mono ?_
    rintro e w1 ⟨rfl, hO1⟩
    have HO1 := Lib.hid (HO.out.trans hO1)
    have HB1 := Lib.hid (row_still hO1 HB.out)
    have hown1 := hO1.owns HOWN.out (fun _ _ h => h)
    have hsz1 := own_lt0 HB1.out
    clear hO1 HO HB HOWN e0 l0
    by_cases hlt : k < n
    · have hown2 := hown1.alloc (.cells #[.int .i64 ((k : Int) + 1)] 3)
      have HUP := Lib.hid (show upI 0 (k + 1) = upI 0 k ++ [(k : Int) + 1] by rw [upI, Int.zero_add])
      have i1 : (k : Int) + 1 ≤ n := by omega
      generalize upI 0 k = U at *
      clear hown1
      go_wp2_with (at_builtin; refine wpList_append_lies _ rfl _ _ 22 rfl (w.heap.size + 1) 3 i0 _ 1 8 Tryz.underlying22 hi0 hz0 hz1 hz2 rfl (by decide) _ k (irow U) rfl hown2 ⟨w1.heap.size, 0, none⟩ 1 1 [.int .i64 ((k : Int) + 1)] rfl rfl (cell_one_new _ _ _) (one_int _) (by decide) ?c1 ?c2 ?c3 _ rfl ?_)
      case c1 => unfold maxLen; omega
      case c2 => omega
      case c3 => first | omega | (simp; omega)
      intro g1 cp1 w3 ho1 hg1 ha1 hgl1
      have hO13 : Only (fun i => (Value.slice av k cv).ownBlock = some i) (w1.alloc (.cells #[.int .i64 ((k : Int) + 1)] 3)) w3 := (Only.refl _ _).grown hg1 (fun i e _ => e)
      have HO3 := Lib.hid ((HO1.out.alloc (.cells #[.int .i64 ((k : Int) + 1)] 3)).trans' hO13 (fun i hi e => by have := own_low' hown2 e; omega))
      have HB3 := Lib.hid ((hO13.block w.heap.size (by rw [World.size_alloc]; omega) (fun e => by have := own_low' hown2 e; omega)).trans (row_still ((Only.refl _ w1).alloc _) HB1.out))
      have HOW := Lib.hid ho1
      clear ho1 hg1 ha1 hown2 hO13
      go_wp2
      go_roundw
      case rel => exact ⟨k + 1, by omega, by go_num, by rw [HUP.out, irow_append]; exact HOW.out, HB3.out, HO3.out⟩
      case measure => simp [intOf]; omega
    · obtain rfl : k = n := by omega
      have i1 : ¬ (k : Int) + 1 ≤ k := by omega
      have hI1 := HI.out.only HO1.out
      have HC0 := Lib.hid (show ChoAt w (w1.alloc (.cells #[.slice a zs.length c, .int .i64 0] 83)) w1.heap.size (.slice a zs.length c) (.slice none 0 0) (.slice av k cv) #[.slice am l.length cm, .slice a1 n1 c1, .slice a2 n2 c2, .slice a3 nd c3, .slice a4 n4 c4] [] (upI 0 k) zs 0 from by
        have hOa : Only (fun _ => False) w1 (w1.alloc (.cells #[.slice a zs.length c, .int .i64 0] 83)) := (Only.refl _ w1).alloc _
        refine ⟨⟨by simpa using heap_alloc_last w1 _, hI1.only hOa, fun hp ad m cc e => ?_⟩, World.ownsRow_nil _ _ _ _, by rw [upI_len]; exact hOa.owns hown1 (fun _ _ h => h), fun _ h => by simp [Value.ownBlock] at h, by simp [Value.ownBlock], fun e => ?_, hsz1, row_still hOa HB1.out, HI.out, HO1.out.trans hOa⟩
        · rcases hI1 with ⟨_, _, _, h0⟩ | ⟨b, off, cap, hv, hb, _⟩
          · rw [h0] at hp; simp at hp
          · rw [hv] at e
            simp only [Value.slice.injEq, Option.some.injEq] at e
            rw [← e.1]; show b ≠ _; omega
        · have := (own_lt hown1 e).1; omega)
      have HCL := Lib.hid (choTo_len zs (upI 0 k))
      rw [upI_len] at HCL
      obtain ⟨g, hg⟩ : ∃ g, w1.heap.size = g := ⟨_, rfl⟩
      rw [hg] at HC0
      clear hI1 hown1 HB1 HO1
      go_wp2_with fail
      clear hg
      go_loopw [5, 8] (fun vr vo wr => ∃ t : Nat, t ≤ nd ∧ ChoAt w wr g (.slice a zs.length c) vo vr #[.slice am l.length cm, .slice a1 n1 c1, .slice a2 n2 c2, .slice a3 nd c3, .slice a4 n4 c4] (choTo zs (upI 0 k) t).1 (choTo zs (upI 0 k) t).2 zs t) (fun _ vo _ => nd - lenV vo)
      case atStart => exact ⟨0, Nat.zero_le _, HC0.out⟩
      case round =>
        clear HC0
        obtain ⟨t, ht, hC⟩ := hrel
        obtain ⟨hl1, hl2⟩ := HCL.out t (by omega)
        have HC := Lib.hid hC
        have e3 := cell_of_row _ _ 3 _ _ _ hC.blk
        have l0 := own_lt0 hC.blk
        by_cases hlt : t < nd
        · have HN := Lib.hid (show choTo zs (upI 0 k) (t + 1) = ((choTo zs (upI 0 k) t).1 ++ [ptAt (choTo zs (upI 0 k) t).2 (nxT zs t (choTo zs (upI 0 k) t).2.length).toNat], (choTo zs (upI 0 k) t).2.take (nxT zs t (choTo zs (upI 0 k) t).2.length).toNat ++ (choTo zs (upI 0 k) t).2.drop ((nxT zs t (choTo zs (upI 0 k) t).2.length).toNat + 1)) from rfl)
          generalize (choTo zs (upI 0 k) t).1 = O at *
          generalize (choTo zs (upI 0 k) t).2 = R at *
          obtain ⟨m, hm⟩ : ∃ m, R.length = m := ⟨_, rfl⟩
          have hm60 : m ≤ 60 := by omega
          obtain ⟨kk, hkk⟩ : ∃ kk : Nat, nxT zs t m = kk := ⟨(nxT zs t m).toNat, by have := nxT_bd zs t m (by omega); omega⟩
          have hkm : kk < m := by have := nxT_bd zs t m (by omega); omega
          rw [hm, hkk, Int.toNat_natCast] at HN
          have HM := Lib.hid hm
          have HKK := Lib.hid hkk
          obtain ⟨gr, cr, rfl, hgr, hgc, hgc2, _⟩ := own_cells hC.rest hm (by omega)
          obtain ⟨ao, co, rfl⟩ := slice_of_own hC.out
          have HC1 := Lib.hid hC
          rw [hl1] at HC1 ⊢
          have i1 : (t : Int) < nd := by omega
          have i2 : (0 : Int) < m := by omega
          have i3 : 0 < m := by omega
          clear hC HC hl2 hm hkk
          go_wp2_with fail
          refine (rnext_any g _ zs t m wr HC1.out.num (by omega) (by omega) hlen).mono ?_
          rintro e w2 ⟨rfl, hN2, hO2⟩
          have HC2 := Lib.hid (HC1.out.next hN2 hO2)
          rw [HKK.out]
          clear hN2 hO2 HC1 e3 l0
          obtain ⟨r1, _, _, r4, _⟩ := own_at HC2.out.rest HM.out hkm
          have hown2 := HC2.out.out.alloc (.cells #[.int .i64 (ptAt R kk)] 3)
          rw [hl1] at hown2
          have HFA := Lib.hid (HC2.out.frame ((Only.refl (fun _ => False) w2).alloc (.cells #[.int .i64 (ptAt R kk)] 3)))
          have hsz2 := own_lt0 HC2.out.blk
          have HL1 := Lib.hid hl1
          have i4 : (kk : Int) < m := by omega
          generalize ptAt R kk = z at *
          clear hl1 HC2
          go_wp2_with (at_builtin; refine wpList_append_lies _ rfl _ _ 22 rfl (w.heap.size + 1) 3 i0 _ 1 8 Tryz.underlying22 hi0 hz0 hz1 hz2 rfl (by decide) _ t (irow O) rfl hown2 ⟨w2.heap.size, 0, none⟩ 1 1 [.int .i64 z] rfl rfl (cell_one_new _ _ _) (one_int _) (by decide) ?d1 ?d2 ?d3 _ rfl ?_)
          case d1 => unfold maxLen; omega
          case d2 => omega
          case d3 => first | omega | (simp; omega)
          intro g1 cp1 w3 ho1 hg1 ha1 hgl1
          have HC3 := Lib.hid (HFA.out.push HL1.out ho1 hg1 (by rw [World.size_alloc]; exact ha1))
          clear ho1 hg1 ha1 hown2 HFA r1 r4
          go_wp2_with fail
          have HRW := Lib.hid HC3.out.rest
          have k1 : IntKind.i64.wrap ((kk : Int) + 1) = (kk : Int) + 1 := IntWalk.i64_in _ (by omega)
          have k2 : (0 : Int) ≤ (kk : Int) + 1 := by omega
          have k3 : ((kk : Int) + 1).toNat = kk + 1 := by omega
          have k4 : kk + 1 ≤ m := by omega
          have k5 : kk ≤ cr := by omega
          have k6 : (kk : Int) + 1 ≤ m := by omega
          have k7 : (kk : Int) ≤ cr := by omega
          have k8 : m ≤ cr := by omega
          have k9 : (kk : Int) + 1 ≤ cr := by omega
          have HEM := Lib.hid (show ((w3.alloc (.cells #[] 3)).drew).ownsRow w3.heap.size 3 1 (.slice (some ⟨w3.heap.size, 0, none⟩) 0 0) 0 [] from ⟨rfl, .inr ⟨w3.heap.size, 0, #[], rfl, Nat.le_refl _, heap_alloc_last w3 _, Nat.le_refl _, by decide, rfl, rfl⟩⟩)
          by_cases hcr : cr = kk + 1
          · obtain rfl := hcr
            obtain rfl : m = kk + 1 := by omega
            have k10 : (kk : Int) ≤ (kk : Int) + 1 := by omega
            go_region_law (first
              | (refine step_append_at _ rfl _ _ 22 rfl w3.heap.size 3 i0 _ 1 8 Tryz.underlying22 hi0 hz0 hz1 hz2 rfl (by decide) (.slice (some ⟨w3.heap.size, 0, none⟩) 0 0) 0 [] rfl HEM.out ⟨gr, 0, none⟩ kk _ (irow ((R.drop 0).take kk)) rfl (by rw [irow_length, List.length_take, List.drop_zero, HM.out]; omega) (own_news HRW.out (((Only.refl _ w3).alloc _).drew) (by have := HM.out; omega) HM.out) (irow_ones _) (by unfold maxLen; omega) (by omega) (by simp) ?_
                 intro v4 w4 hown4 hg4
                 have HO4 := Lib.hid (cho_only1 hg4)
                 have HOW4 := Lib.hid hown4
                 clear hown4 hg4)
              | (refine step_append_at _ rfl _ _ 22 rfl w3.heap.size 3 i0 _ 1 8 Tryz.underlying22 hi0 hz0 hz1 hz2 rfl (by decide) v4 (0 + kk) _ rfl HOW4.out ⟨gr, 0, none⟩ 0 _ [] rfl rfl (fun j u hu => by simp at hu) (fun u hu => by simp at hu) (by unfold maxLen; omega) (by omega) HO4.out.size ?_
                 intro v5 w5 hown5 hg5
                 have HC5 := Lib.hid (HC3.out.cut (R' := R.take kk ++ R.drop (kk + 1)) (m := kk) (by rw [List.length_append, List.length_take, List.length_drop, HM.out]; omega) (cho_only2 HO4.out HOW4.out hg5) (by rw [List.nil_append, List.drop_zero, List.append_nil, Nat.zero_add, Nat.add_zero] at hown5; rw [List.drop_eq_nil_of_le (by rw [HM.out]; exact Nat.le_refl _), List.append_nil]; exact hown5))
                 obtain ⟨a5, c5, rfl⟩ := slice_of_own hown5
                 clear hown5 hg5 HO4 HOW4))
            all_goals (clear k1 k2 k3 k4 k5 k6 k7 k8 k9)
            all_goals (simp only [Act.put, List.getElem_toArray, List.getElem_cons_zero, List.getElem_cons_succ, List.setIfInBounds_toArray, List.set_cons_zero, List.set_cons_succ])
            all_goals (go_wp2)
            all_goals (go_roundw)
            all_goals first
              | exact ⟨t + 1, hlt, by have h := HC5.out; simp only [Nat.zero_add, Nat.add_zero] at h; rw [HN.out]; exact h⟩
              | (show nd - (t + 1) < nd - t; omega)
              | (simp [lenV]; omega)
          · have k10 : ¬ cr = kk + 1 := hcr
            have HS2 := Lib.hid (fun (w' : World) (hO : Only (fun _ => False) w3 w') => own_news (k := kk + 1) (m := m - (kk + 1)) HRW.out hO (by have := HM.out; omega) HM.out)
            go_region_law (first
              | (refine step_append_at _ rfl _ _ 22 rfl w3.heap.size 3 i0 _ 1 8 Tryz.underlying22 hi0 hz0 hz1 hz2 rfl (by decide) (.slice (some ⟨w3.heap.size, 0, none⟩) 0 0) 0 [] rfl HEM.out ⟨gr, 0, none⟩ kk _ (irow ((R.drop 0).take kk)) rfl (by rw [irow_length, List.length_take, List.drop_zero, HM.out]; omega) (own_news HRW.out (((Only.refl _ w3).alloc _).drew) (by have := HM.out; omega) HM.out) (irow_ones _) (by unfold maxLen; omega) (by omega) (by simp) ?_
                 intro v4 w4 hown4 hg4
                 have HO4 := Lib.hid (cho_only1 hg4)
                 have HOW4 := Lib.hid hown4
                 clear hown4 hg4)
              | (refine step_append_at _ rfl _ _ 22 rfl w3.heap.size 3 i0 _ 1 8 Tryz.underlying22 hi0 hz0 hz1 hz2 rfl (by decide) v4 (0 + kk) _ rfl HOW4.out ⟨gr, kk + 1, none⟩ (m - (kk + 1)) _ (irow ((R.drop (kk + 1)).take (m - (kk + 1)))) rfl (by rw [irow_length, List.length_take, List.length_drop, HM.out]; omega) (HS2.out _ HO4.out) (irow_ones _) (by unfold maxLen; omega) (by omega) HO4.out.size ?_
                 intro v5 w5 hown5 hg5
                 have HC5 := Lib.hid (HC3.out.cut (R' := R.take kk ++ R.drop (kk + 1)) (m := m - 1) (by rw [List.length_append, List.length_take, List.length_drop, HM.out]; omega) (cho_only2 HO4.out HOW4.out hg5) (by rw [show m - 1 = 0 + kk + (m - (kk + 1)) by omega]; rw [List.nil_append, List.drop_zero, ← irow_append, List.take_of_length_le (l := R.drop (kk + 1)) (by rw [List.length_drop, HM.out]; omega)] at hown5; exact hown5))
                 obtain ⟨a5, c5, rfl⟩ := slice_of_own hown5
                 clear hown5 hg5 HO4 HOW4))
            all_goals (clear k1 k2 k3 k4 k5 k6 k7 k8 k9)
            all_goals (simp only [Act.put, List.getElem_toArray, List.getElem_cons_zero, List.getElem_cons_succ, List.setIfInBounds_toArray, List.set_cons_zero, List.set_cons_succ])
            all_goals (go_wp2)
            all_goals (go_roundw)
            all_goals first
              | exact ⟨t + 1, hlt, by have h := HC5.out; simp only [Nat.zero_add] at h; rw [HN.out]; exact h⟩
              | (show nd - (t + 1) < nd - t; omega)
              | (simp [lenV]; omega)
        · obtain rfl : t = nd := by omega
          have HR := Lib.hid (show ListPost w (choZ zs k t) (.returned u8) wr from ⟨u8, rfl, by unfold choZ; exact own_base hC.out (by omega), hC.only⟩)
          obtain ⟨ao, co, rfl⟩ := slice_of_own hC.out
          obtain ⟨ar, cr, rfl⟩ := slice_of_own hC.rest
          rw [hl1] at *
          have i1 : ¬ (t : Int) < t := by omega
          clear hC HC
          go_wp2
          go_ret
          exact HR.out
end Go.Proofs.YtalclldccnichaaGreat
