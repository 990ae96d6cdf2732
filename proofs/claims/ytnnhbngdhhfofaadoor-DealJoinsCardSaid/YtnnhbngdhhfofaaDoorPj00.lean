/-
  Plain: shares of a dealing give the first coefficient (as the law DealJoins computes it).
-/
import Derived.Test.YtnnhbngdhhfofaaDoorPd10
import Derived.Test.YtnnhbngdhhfofaaDoorPd15
namespace Go.Proofs.YtnnhbngdhhfofaaDoor
open Go.RowKit

/-- The points of the shares: m owners from number fr on, of kl. -/
def nkT (fr kl k : Nat) : Nat := (fr + k) % kl
def zsT (fr kl m : Nat) : List Int := (List.range m).map fun k => ((nkT fr kl k : Nat) : Int) + 1
def ysT (F : List Int) (fr kl m : Nat) : List Int := (List.range m).map fun k => valZ F (((nkT fr kl k : Nat) : Int) + 1)
theorem zsT_len (fr kl m : Nat) : (zsT fr kl m).length = m := by simp [zsT]
theorem zsT_at (fr kl m j : Nat) (h : j < m) : ptAt (zsT fr kl m) j = ((nkT fr kl j : Nat) : Int) + 1 := by simp [zsT, ptAt, List.getD, h]
theorem ysT_at (F : List Int) (fr kl m j : Nat) (h : j < m) : ptAt (ysT F fr kl m) j = valZ F (((nkT fr kl j : Nat) : Int) + 1) := by simp [ysT, ptAt, List.getD, h]
theorem nk_lt (fr kl k : Nat) (h : 0 < kl) : nkT fr kl k < kl := Nat.mod_lt _ h
theorem nk_ne (fr kl j k : Nat) (hj : j < kl) (hk : k < kl) (h : j ≠ k) : nkT fr kl j ≠ nkT fr kl k := by
  have aux : ∀ a b, a < b → b < kl → nkT fr kl a ≠ nkT fr kl b := by
    intro a b hab hb e
    have h1 := Nat.sub_mod_eq_zero_of_mod_eq (show (fr + b) % kl = (fr + a) % kl from e.symm)
    rw [show fr + b - (fr + a) = b - a by omega, Nat.mod_eq_of_lt (by omega)] at h1
    omega
  rcases Nat.lt_or_ge j k with h1 | h1
  · exact aux j k h1 hk
  · exact fun e => aux k j (by omega) hj e.symm
theorem zsT_pts (fr kl m : Nat) (hm : m ≤ kl) (hk : kl ≤ 60) : Points (zsT fr kl m) := by
  refine ⟨fun j hj => ?_, fun j k hj hk' hne => ?_⟩
  · rw [zsT_len] at hj
    rw [zsT_at fr kl m j hj, gQ_val]
    have := nk_lt fr kl j (by omega)
    omega
  · rw [zsT_len] at hj hk'
    rw [zsT_at fr kl m j hj, zsT_at fr kl m k hk']
    have := nk_ne fr kl j k (by omega) (by omega) hne
    omega
/-- What the law computes of one share. -/
def fLo (zs : List Int) (y : Int) (i : Nat) : Nat → Int
  | 0 => y
  | j + 1 => if j = i then fLo zs y i j else fLo zs y i j * (ptAt zs j * invM (ptAt zs j - ptAt zs i) 1152921504606845789 % 1152921504606845789) % 1152921504606845789
theorem invM_mod (a : Int) : invM (a % gQ) gQ = invM a gQ := by unfold invM; rw [Int.emod_emod_of_dvd _ (Int.dvd_refl gQ)]
theorem fLo_cong (zs : List Int) (y : Int) (i : Nat) : ∀ n, fLo zs y i n % gQ = facTo zs i n * y % gQ
  | 0 => by rw [fLo, facTo, Int.one_mul]
  | n + 1 => by
    rw [fLo, facTo]
    by_cases e : n = i
    · rw [if_pos e, if_pos e]; exact fLo_cong zs y i n
    · rw [if_neg e, if_neg e, ← gQ_val, invM_mod, Int.emod_emod_of_dvd _ (Int.dvd_refl gQ)]
      generalize ptAt zs n * invM (ptAt zs n - ptAt zs i) gQ % gQ = c
      rw [Int.mul_emod, fLo_cong zs y i n, ← Int.mul_emod, res_mul]
      congr 1
      simp only [Int.mul_left_comm, Int.mul_comm]
/-- The sum, of the first k. -/
def sumT (zs ys : List Int) : Nat → Int
  | 0 => 0
  | k + 1 => (sumT zs ys k + fLo zs (ptAt ys k) k zs.length) % 1152921504606845789
theorem sumT_comb (zs ys : List Int) : ∀ k, sumT zs ys k = combRTo zs ys k
  | 0 => rfl
  | k + 1 => by
    rw [sumT, combRTo, sumT_comb zs ys k]
    have := fLo_cong zs (ptAt ys k) k zs.length
    rw [gQ_val] at this
    unfold facR
    rw [← this]
    generalize combRTo zs ys k = a
    generalize fLo zs (ptAt ys k) k zs.length = b
    omega
theorem comb_firstP (zs ns cs : List Int) (hP : Points zs) (hl : cs.length ≤ zs.length) (hc : 0 ≤ ptAt cs 0 ∧ ptAt cs 0 < gQ) (hv : ∀ j, j < zs.length → ptAt ns j = valZ cs (ptAt zs j)) : combRTo zs ns zs.length = ptAt cs 0 := by
  have hb := combRTo_bd zs ns zs.length
  have h1 := comb_lsum zs ns (ev cs) hP (fun j hj => by rw [hv j hj]; exact valZ_cong _ _) zs.length (Nat.le_refl _)
  rw [List.take_length] at h1
  exact (h1.trans (interp gQ ivQ cs zs hl (apart_of zs hP))).eq hb.1 hb.2 hc.1 hc.2
/-- The law's sum is the first coefficient. -/
theorem join_first (F : List Int) (fr kl : Nat) (hm : F.length ≤ kl) (hk : kl ≤ 60) (hc : 0 ≤ ptAt F 0 ∧ ptAt F 0 < gQ) : sumT (zsT fr kl F.length) (ysT F fr kl F.length) F.length = ptAt F 0 := by
  rw [sumT_comb]
  have := comb_firstP (zsT fr kl F.length) (ysT F fr kl F.length) F (zsT_pts fr kl _ hm hk) (by rw [zsT_len]; exact Nat.le_refl _) hc (fun j hj => by
    rw [zsT_len] at hj
    rw [ysT_at F fr kl _ j hj, zsT_at fr kl _ j hj])
  rw [zsT_len] at this
  exact this
/-- Differences of points have inverses. -/
theorem inv_pts {zs : List Int} (h : Points zs) (n i : Nat) (hn : n < zs.length) (hi : i < zs.length) (e : n ≠ i) : invB (ptAt zs n - ptAt zs i) 1152921504606845789 = true := by
  have hg : Int.gcd (ptAt zs n - ptAt zs i) gQ = 1 := by
    refine gcd_Q _ (fun h0 => ?_)
    have h1 := h.bd n hn
    have h2 := h.bd i hi
    have h3 := h.ne n i hn hi e
    obtain ⟨c, hc⟩ := Int.dvd_of_emod_eq_zero h0
    rcases Int.lt_trichotomy c 0 with hc0 | hc0 | hc0
    · have : gQ * c ≤ gQ * (-1) := Int.mul_le_mul_of_nonneg_left (by omega) (by decide)
      omega
    · subst hc0; omega
    · have : gQ * 1 ≤ gQ * c := Int.mul_le_mul_of_nonneg_left (by omega) (by decide)
      omega
  unfold invB
  have := inv_gcd (ptAt zs n - ptAt zs i) gQ (by decide) (by decide)
  rw [gQ_val] at this hg
  rw [this, hg]
  rfl
theorem dl_blk2D {A B : World} {o : Obj} (hO : Only (fun _ => False) (A.alloc o).drew B) : B.heap[A.heap.size]? = some o := by
  rw [hO.block A.heap.size (by show _ < (A.alloc o).heap.size; simp) id]; exact heap_alloc_last A o
theorem dl_blkD {A B : World} {o : Obj} (hO : Only (fun _ => False) (A.alloc o) B) : B.heap[A.heap.size]? = some o := by
  rw [hO.block A.heap.size (by simp) id]; exact heap_alloc_last A o
/-- A share that is being stored. -/
def ShMid (wr wx : World) (x y : Int) (v13 v14 : Value) : Prop := ∃ B, v13 = .pointer (some ⟨B, 0, none⟩) ∧ v14 = .bool true ∧ wx.heap[B]? = some (.cells #[.int .i64 x, .int .i64 y] 34 (0, 0)) ∧ wr.heap.size ≤ B ∧ Only (fun _ => False) wr wx
theorem sh_end1 {wr wO : World} {x y : Int} (hO : Only (fun _ => False) wr wO) : ShMid wr (wO.alloc (.cells #[.int .i64 x, .int .i64 y] 34)) x y (.pointer (some ⟨wO.heap.size, 0, none⟩)) (.bool true) :=
  ⟨_, rfl, rfl, heap_alloc_last wO _, hO.size, hO.alloc _⟩
theorem sh_end2 {wr wO : World} {x y : Int} {B : Nat} (hB : wr.heap.size ≤ B) (hk : wO.heap[B]? = some (.cells #[.int .i64 0, .int .i64 0] 34 (0, 0))) (hO : Only (fun _ => False) wr wO) :
    ShMid wr ((wO.setCell ⟨B, 0, none⟩ (.int .i64 x)).setCell ⟨B, 1, none⟩ (.int .i64 y)) x y (.pointer (some ⟨B, 0, none⟩)) (.bool true) :=
  ⟨_, rfl, rfl, heap_setCell_same _ _ 1 _ _ _ (heap_setCell_same _ _ 0 _ _ _ hk), hB, (hO.setCell (.inr hB) _).setCell (.inr hB) _⟩
end Go.Proofs.YtnnhbngdhhfofaaDoor
