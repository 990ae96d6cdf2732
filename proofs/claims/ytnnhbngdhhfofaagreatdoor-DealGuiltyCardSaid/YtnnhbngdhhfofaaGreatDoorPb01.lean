/-
  A box with a changed byte does not open (plain).
  The walk of the law DealGuilty.
-/
import Derived.Test.YtnnhbngdhhfofaaGreatDoorPa19
import Derived.Test.YtnnhbngdhhfofaaGreatDoorPb00
import Derived.Lib.ConvBytes
import Derived.Test.YtnnhbngdhhfofaaGreatDoorPa16
import Derived.Test.YtnnhbngdhhfofaaGreatDoorPa15
import Derived.Test.YtnnhbngdhhfofaaGreatDoorPa10
import Derived.Test.YtnnhbngdhhfofaaGreatDoorPa02
namespace Go.Proofs.YtnnhbngdhhfofaaGreatDoor
open Go.RowKit

def bentN (b : ByteArray) (a : Nat) (m : Int) : List Int := (List.range b.size).map fun j => if j = a then xor8 (byteZ b j) m else byteZ b j
/-- A string with one byte changed. -/
def bentS (b : ByteArray) (a : Nat) (m : Int) : ByteArray := strOfNums (bentN b a m)
theorem byteZ_bd (b : ByteArray) (j : Nat) : 0 ≤ byteZ b j ∧ byteZ b j ≤ 255 := by
  unfold byteZ
  have := UInt8.toNat_lt (b.data.toList.getD j 0)
  omega
theorem bentN_len (b : ByteArray) (a : Nat) (m : Int) : (bentN b a m).length = b.size := by simp [bentN]
theorem bentN_at (b : ByteArray) (a : Nat) (m : Int) (j : Nat) (hj : j < b.size) : ptAt (bentN b a m) j = if j = a then xor8 (byteZ b j) m else byteZ b j := by
  simp [bentN, ptAt, List.getD, hj]
theorem bent_size (b : ByteArray) (a : Nat) (m : Int) : (bentS b a m).size = b.size := by unfold bentS; rw [strOf_size, bentN_len]
theorem bent_byte (b : ByteArray) (a : Nat) (m : Int) (j : Nat) (hj : j < b.size) : byteZ (bentS b a m) j = if j = a then xor8 (byteZ b j) m else byteZ b j := by
  have e := bentN_at b a m j hj
  have hb : 0 ≤ ptAt (bentN b a m) j ∧ ptAt (bentN b a m) j ≤ 255 := by
    rw [e]
    split
    · exact xor8_bd _ _
    · exact byteZ_bd _ _
  unfold bentS
  rw [byteZ_strOf _ _ (by rw [bentN_len]; exact hj) hb.1 hb.2, e]
theorem xor8_swap (x m p : Int) (hx : 0 ≤ x ∧ x ≤ 255) (hm : 0 ≤ m ∧ m ≤ 255) (hp : 0 ≤ p ∧ p ≤ 255) : xor8 (xor8 x m) p = xor8 (xor8 x p) m := by
  obtain ⟨x, rfl⟩ := Int.eq_ofNat_of_zero_le hx.1
  obtain ⟨m, rfl⟩ := Int.eq_ofNat_of_zero_le hm.1
  obtain ⟨p, rfl⟩ := Int.eq_ofNat_of_zero_le hp.1
  unfold xor8
  have hl1 : x ^^^ m < 256 := Nat.xor_lt_two_pow (n := 8) (by omega) (by omega)
  have hl2 : x ^^^ p < 256 := Nat.xor_lt_two_pow (n := 8) (by omega) (by omega)
  rw [u8_xor_nat x m (by omega) (by omega), u8_xor_nat x p (by omega) (by omega), u8_xor_nat _ p hl1 (by omega), u8_xor_nat _ m hl2 (by omega), Nat.xor_assoc, Nat.xor_comm m p, ← Nat.xor_assoc]
theorem xor8_ne (c m : Int) (hc : 0 ≤ c ∧ c ≤ 255) (hm : 0 < m ∧ m ≤ 255) : xor8 c m ≠ c := by
  intro h
  have h1 := xor8_back m c (by omega) (by omega) hc.1 hc.2
  rw [xor8_comm m c, h, xor8_self c hc.1 hc.2] at h1
  omega
theorem bent_cont (b : ByteArray) (h : List Int) (a : Nat) (m : Int) (hb : Bytes32 h) (hm : 0 ≤ m ∧ m ≤ 255) (j : Nat) (hj : j < b.size) : contB (bentS b a m) h j = if j = a then xor8 (contB b h j) m else contB b h j := by
  unfold contB
  rw [bent_byte b a m j hj]
  split
  · exact xor8_swap _ _ _ (byteZ_bd _ _) hm (hb.bd j)
  · rfl
theorem contR_eq (b b' : ByteArray) (h : List Int) : ∀ n, (∀ j, j < n → contB b' h j = contB b h j) → contR b' h n = contR b h n
  | 0, _ => rfl
  | n + 1, H => by rw [contR, contR, contR_eq b b' h n (fun j hj => H j (by omega)), H n (by omega)]
theorem contR_ne (b b' : ByteArray) (h : List Int) (a : Nat) : ∀ n, a < n → contB b' h a ≠ contB b h a → (∀ j, j < n → j ≠ a → contB b' h j = contB b h j) → contR b' h n ≠ contR b h n
  | n + 1, ha, hne, H => by
    rw [contR, contR]
    by_cases e : a = n
    · subst e
      rw [contR_eq b b' h a (fun j hj => H j (by omega) (by omega))]
      omega
    · have := contR_ne b b' h a n (by omega) hne (fun j hj => H j (by omega))
      rw [H n (by omega) (fun h => e h.symm)]
      omega
theorem tail_at {b : ByteArray} {h : List Int} (ht : tailB b h = true) {a : Nat} (h1 : 8 ≤ a) (h2 : a < 16) : contB b h a = 0 := by
  unfold tailB at ht
  rw [List.all_eq_true] at ht
  have := ht (a - 8) (by rw [List.mem_range]; omega)
  rw [show 8 + (a - 8) = a by omega] at this
  simpa using this
/-- A box with a changed byte holds another number, or none. -/
theorem bent_val {b : ByteArray} {k i a : Nat} {m y : Int} (hv : contV b k i = (y, true)) (hy : 0 ≤ y) (hy2 : y < 9223372036854775808) (ha : a < 16) (hm : 1 ≤ m ∧ m ≤ 16) :
    (contV (bentS b a m) k i).2 = true → (contV (bentS b a m) k i).1 ≠ y := by
  have hP := padL_bytes k i
  unfold contV at hv
  by_cases hc : (b.size == 16 && tailB b (padL k i)) = true
  · rw [if_pos hc] at hv
    simp only [Bool.and_eq_true, beq_iff_eq] at hc
    have hw : wrap64 (contR b (padL k i) 8) = y := congrArg Prod.fst hv
    have hr := contR_bd b (padL k i) 8
    have hr' := contR_bd (bentS b a m) (padL k i) 8
    have hb := fun j (hj : j < 16) => bent_cont b (padL k i) a m hP ⟨by omega, by omega⟩ j (by rw [hc.1]; exact hj)
    intro h2 h1
    unfold contV at h1 h2
    by_cases hc' : ((bentS b a m).size == 16 && tailB (bentS b a m) (padL k i)) = true
    · rw [if_pos hc'] at h1
      simp only [Bool.and_eq_true] at hc'
      by_cases h8 : a < 8
      · have hne : contR (bentS b a m) (padL k i) 8 ≠ contR b (padL k i) 8 := contR_ne _ _ _ a 8 h8
          (by rw [hb a ha, if_pos rfl]; exact xor8_ne _ _ (contB_bd _ _ _) ⟨by omega, by omega⟩)
          (fun j hj hja => by rw [hb j (by omega), if_neg hja])
        have h3 : wrap64 (contR (bentS b a m) (padL k i) 8) = y := h1
        generalize contR (bentS b a m) (padL k i) 8 = r' at *
        generalize contR b (padL k i) 8 = r at *
        have e8 : (256 : Int) ^ 8 = 18446744073709551616 := by decide
        rw [e8] at hr hr'
        unfold wrap64 at hw h3
        omega
      · have h0 := tail_at hc'.2 (a := a) (by omega) ha
        rw [hb a ha, if_pos rfl, tail_at hc.2 (by omega) ha] at h0
        have := xor8_ne 0 m ⟨by decide, by decide⟩ ⟨by omega, by omega⟩
        exact this h0
    · rw [if_neg hc'] at h2; cases h2
  · rw [if_neg hc] at hv; cases hv
/-- A dealing with a changed box. -/
def bentD (d : Dl) (n a : Nat) (m : Int) : Dl := ⟨d.cm, d.pt, d.bx.set n (bentS (sAt d.bx n) a m)⟩
theorem bentD_at (d : Dl) (n a : Nat) (m : Int) (k : Nat) (hn : n < d.bx.length) : sAt (bentD d n a m).bx k = if k = n then bentS (sAt d.bx n) a m else sAt d.bx k := by
  unfold bentD sAt
  simp only [List.getD, List.getElem?_set]
  by_cases e : n = k
  · subst e; simp [hn]
  · rw [if_neg e, if_neg (fun h => e h.symm)]
theorem bentD_len (d : Dl) (n a : Nat) (m : Int) : (bentD d n a m).bx.length = d.bx.length := by simp [bentD]
theorem gy_open {cs ks : List Int} (seed : ByteArray) {s m : Int} {k n a : Nat} (h : dealOk cs ks = true) (hk : k < ks.length) (hn : n < ks.length) (ha : a < 16) (hm : 1 ≤ m ∧ m ≤ 16) (hkey : ptAt ks k = powM 4 (s % 1152921504606845789) 2305843009213691579) :
    (unsV (bentD (dealZ cs ks seed) n a m) (seedN (bentD (dealZ cs ks seed) n a m) s).toNat k).2.2 = !(k == n) := by
  obtain ⟨h1, h2, h3, h4, h5⟩ := dealOk_parts h
  have hcs : ∀ j, 0 ≤ ptAt cs j ∧ ptAt cs j < 1152921504606845789 := fun j => by
    by_cases hj : j < cs.length
    · exact h5 j hj
    · rw [ptAt_out (by omega)]; exact ⟨by decide, by decide⟩
  have el : (dealZ cs ks seed).bx.length = ks.length := bxTo_len _ _ _ _
  have hs : seedN (bentD (dealZ cs ks seed) n a m) s = seedN (dealZ cs ks seed) s := rfl
  rw [hs]
  by_cases e : k = n
  · subst e
    have hu := uns_open seed (s := s) h hk hkey
    rw [show (!(k == k)) = false by simp]
    obtain ⟨x0, x1⟩ := emod_self_lt s 1152921504606845789 (by decide)
    have es : seedN (dealZ cs ks seed) s = seedN (dealZ cs ks seed) (s % 1152921504606845789) := by
      unfold seedN; rw [Int.emod_emod_of_dvd _ (Int.dvd_refl _)]
    have hud := uns_dealt cs ks seed _ k hk x0 x1 hkey hcs
    rw [← es] at hud
    generalize (seedN (dealZ cs ks seed) s).toNat = g at *
    have hv := valZ_bd cs ((k : Int) + 1)
    have hv1 : valZ cs ((k : Int) + 1) < 1152921504606845789 := hv.2
    have hct : contV (sAt (dealZ cs ks seed).bx k) g k = (valZ cs ((k : Int) + 1), true) := by
      unfold unsV at hud
      split at hud
      · next hc =>
        simp only [Bool.and_eq_true] at hc
        have := congrArg (fun t => t.2.1) hud
        exact Prod.ext this hc.1
      · cases congrArg (fun t => t.2.2) hud
    unfold unsV
    rw [bentD_at _ _ _ _ _ (by rw [el]; exact hk), if_pos rfl]
    by_cases hc : (contV (bentS (sAt (dealZ cs ks seed).bx k) a m) g k).2 = true
    · have hne := bent_val hct hv.1 (by omega) ha hm hc
      have hf : fitsB (bentD (dealZ cs ks seed) k a m) ((k : Int) + 1) (contV (bentS (sAt (dealZ cs ks seed).bx k) a m) g k).1 = false := by
        generalize (contV (bentS (sAt (dealZ cs ks seed).bx k) a m) g k).1 = z at hne ⊢
        unfold fitsB insideB
        rw [show (bentD (dealZ cs ks seed) k a m).cm = cmTo cs cs.length from rfl, at_law cs _ hcs]
        by_cases hz : 0 ≤ z ∧ z ≤ 1152921504606845788
        · rw [decide_eq_true hz.1, decide_eq_true hz.2]
          simp only [Bool.and_self, Bool.true_and, decide_eq_false_iff_not]
          intro he
          exact hne (pow4_inj hz.1 (by omega) hv.1 hv1 he)
        · have : (decide (0 ≤ z) && decide (z ≤ 1152921504606845788)) = false := by
            rw [← Bool.decide_and]; exact decide_eq_false hz
          rw [this]; rfl
      rw [hf, Bool.and_false]; rfl
    · rw [Bool.eq_false_iff.2 hc]; rfl
  · have hu := uns_open seed (s := s) h hk hkey
    rw [show (!(k == n)) = true by simp [e]]
    unfold unsV at hu ⊢
    rw [bentD_at _ _ _ _ _ (by rw [el]; exact hn), if_neg e]
    exact hu
theorem gy_judge {cs ks : List Int} (seed : ByteArray) {s m : Int} {k n a : Nat} (h : dealOk cs ks = true) (hk : k < ks.length) (hn : n < ks.length) (ha : a < 16) (hm : 1 ≤ m ∧ m ≤ 16) (hkey : ptAt ks k = powM 4 (s % 1152921504606845789) 2305843009213691579) :
    judgeZ ks (bentD (dealZ cs ks seed) n a m) k (seedN (bentD (dealZ cs ks seed) n a m) s) (pfC (s % 1152921504606845789) 4 (bentD (dealZ cs ks seed) n a m).pt) (pfZ (s % 1152921504606845789) 4 (bentD (dealZ cs ks seed) n a m).pt) = if k = n then 1 else 2 := by
  have hv := ver_made (g := 4) (h := (dealZ cs ks seed).pt) (x := s % 1152921504606845789) mem4 (pt_dealt cs ks seed) (emod_self_lt s _ (by decide))
  have el : (dealZ cs ks seed).bx.length = ks.length := bxTo_len _ _ _ _
  have hchk : chkB (bentD (dealZ cs ks seed) n a m) ks.length = true := by
    obtain ⟨h1, h2, h3, h4, h5⟩ := dealOk_parts h
    have hsc := scalarZ_bd (ptS seed)
    have h16 : ∀ j, j < ks.length → (sAt (dealZ cs ks seed).bx j).size = 16 := fun j hj => by
      rw [show sAt (dealZ cs ks seed).bx j = boxOf cs ks (scalarZ (ptS seed)) j from bxTo_at _ _ _ _ _ hj]
      unfold boxOf
      rw [strOf_size, sealL_len]
    have e1 : (bentD (dealZ cs ks seed) n a m).bx.length = ks.length := by rw [bentD_len, el]
    have e2 : (bentD (dealZ cs ks seed) n a m).cm.length = cs.length := cmTo_len _ _
    have e3 : b16B (bentD (dealZ cs ks seed) n a m).bx = true := b16_yes _ fun j hj => by
      rw [e1] at hj
      rw [bentD_at _ _ _ _ _ (by rw [el]; exact hn)]
      split
      · rw [bent_size]; exact h16 n hn
      · exact h16 j hj
    have e4 : membersB (bentD (dealZ cs ks seed) n a m).cm = true := cmTo_mem cs h5 _ (Nat.le_refl _)
    have e5 : memB (bentD (dealZ cs ks seed) n a m).pt = true := mem_pow mem4 hsc.1 (by omega)
    unfold chkB
    rw [e1, e2, e3, e4, e5, decide_eq_true rfl, decide_eq_true h3, decide_eq_true h4]
    rfl
  unfold judgeZ
  rw [if_pos ⟨hchk, by omega, by omega, by rw [Int.toNat_natCast, hkey]; exact hv⟩, Int.toNat_natCast, gy_open seed h hk hn ha hm hkey]
  by_cases e : k = n
  · rw [if_pos e]; simp [e]
  · rw [if_neg e]; simp [e]
theorem plan_ok (S C : List Int) (h : 1 ≤ (numsL S C).length) : dealOk (numsL S C) (keysL S) = true := by
  have hk := keysL_len S
  have hn := numsL_len S C
  have hm : membersB (keysL S) = true := by
    unfold membersB keysL
    rw [List.all_map, List.all_eq_true]
    intro s _
    obtain ⟨x0, x1⟩ := emod_self_lt s 1152921504606845789 (by decide)
    exact mem_pow mem4 x0 (by omega)
  have hi : (numsL S C).all insideB = true := by
    unfold numsL
    rw [List.all_map, List.all_eq_true]
    intro s _
    obtain ⟨x0, x1⟩ := emod_self_lt s 1152921504606845789 (by decide)
    show insideB (s % 1152921504606845789) = true
    unfold insideB
    rw [decide_eq_true x0, decide_eq_true (by omega)]
    rfl
  unfold dealOk
  rw [hm, hi, decide_eq_true (by omega), decide_eq_true (by omega), decide_eq_true (by omega), decide_eq_true (by omega)]
  rfl
theorem bytes_frozen (w : World) (e : TypeId) (s : ByteArray) (j : Nat) (hj : j < s.size) : (Lib.bytesWorld w e s).frozen? ⟨w.heap.size, j, none⟩ = false := by
  have : s.size ≤ (Lib.bytesCells w e s).size := by
    unfold Lib.bytesCells
    rw [Array.size_append, Array.size_map]
    show s.data.size ≤ _
    omega
  simp [World.frozen?, Lib.bytesWorld_at_new]
  omega
theorem bytes_only (w : World) (e : TypeId) (s : ByteArray) : Only (fun _ => False) w (Lib.bytesWorld w e s) :=
  ⟨rfl, rfl, rfl, by rw [Lib.bytesWorld_size]; omega, fun k hk _ => Lib.bytesWorld_at_old w e s k hk⟩
theorem pts_apart {S : Nat → Prop} {A B : World} (h : Only S A B) {v : Value} {zs : List Int} (hf : ∀ b off n c, v = .slice (some ⟨b, off, none⟩) n c → ¬ S b) : PtsAt A.heap.size A v zs → PtsAt B.heap.size B v zs
  | .inl e => .inl e
  | .inr ⟨b, off, cap, e, hb, h1, h2, hc⟩ => .inr ⟨b, off, cap, e, Nat.lt_of_lt_of_le hb h.size, h1, h2, fun j hj => h.cell (hc j hj) (hf b off _ _ e)⟩
theorem own_apart {W : World} {base e s n g : Nat} {v : Value} {xs : List Value} {cur : Array Value} {t : TypeId} {fr : Nat × Nat} (h : W.ownsRow base e s v n xs) (hg : W.heap[g]? = some (.cells cur t fr)) (hne : e ≠ t) : ∀ b off m c, v = .slice (some ⟨b, off, none⟩) m c → ¬ b = g := by
  intro b off m c hv hb
  subst hb
  rcases h.2 with ⟨h0, _⟩ | ⟨g', cap, cur', hv', _, hg', _⟩
  · rw [h0] at hv; simp at hv
  · rw [hv'] at hv
    simp only [Value.slice.injEq, Option.some.injEq, Addr.mk.injEq] at hv
    obtain ⟨⟨rfl, _⟩, _⟩ := hv
    rw [hg'] at hg
    simp only [Option.some.injEq, Obj.cells.injEq] at hg
    exact hne hg.2.1
theorem own_apart_lt {W : World} {base e s n g : Nat} {v : Value} {xs : List Value} (h : W.ownsRow base e s v n xs) (hg : W.heap.size ≤ g) : ∀ b off m c, v = .slice (some ⟨b, off, none⟩) m c → ¬ b = g := by
  intro b off m c hv hb
  have := own_lt h (k := b) (by rw [hv]; rfl)
  omega
/-- The bytes of a box of which one is changed. -/
theorem bent_cells {W : World} {g a : Nat} {b : ByteArray} {m : Int} (hs : b.size = 16) (ha : a < 16) (hc : ∀ j, j < 16 → W.cell? ⟨g, j, none⟩ = some (.int .u8 (byteZ b j))) (j : Nat) (hj : j < 16) :
    (W.setCell ⟨g, a, none⟩ (.int .u8 (xor8 (byteZ b a) m))).cell? ⟨g, 0 + j, none⟩ = some (.int .u8 ((bentN b a m).getD j 0)) := by
  have e : (bentN b a m).getD j 0 = if j = a then xor8 (byteZ b j) m else byteZ b j := bentN_at b a m j (by omega)
  rw [e, Nat.zero_add]
  by_cases h : j = a
  · subst h
    rw [if_pos rfl]
    exact World.cell?_setCell_same _ _ _ (hc j hj)
  · rw [if_neg h]
    exact (World.cell?_setCell_other _ _ _ _ (fun e => h (by cases e; rfl))).trans (hc j hj)
theorem bent_strs {W : World} {base g cap n a : Nat} {m : Int} {d : Dl} (h : W.ownsRow base 9 1 (.slice (some ⟨g, 0, none⟩) d.bx.length cap) d.bx.length (srowS d.bx)) :
    (W.setCell ⟨g, n, none⟩ (.string (bentS (sAt d.bx n) a m))).ownsRow base 9 1 (.slice (some ⟨g, 0, none⟩) (bentD d n a m).bx.length cap) (bentD d n a m).bx.length (srowS (bentD d n a m).bx) := by
  rw [bentD_len]
  have := (h.stored n (.string (bentS (sAt d.bx n) a m))).1
  unfold bentD srowS
  simp only [List.map_set]
  exact this
end Go.Proofs.YtnnhbngdhhfofaaGreatDoor

namespace Go.Proofs.YtnnhbngdhhfofaaGreatDoor
open Go.RowKit

set_option maxRecDepth 100000 in
set_option maxHeartbeats 8000000 in
theorem gy_walk (sv cv : Value) (S C : List Int) (seed : ByteArray) (xi yi : Int) (w : World) (hS : PtsAt w.heap.size w sv S) (hC : PtsAt w.heap.size w cv C) (hSl : S.length ≤ 9223372036854775807) (hCl : C.length ≤ 9223372036854775807) (hsd : seed.size ≤ 148000000000000)
    (hx0 : 0 ≤ xi) (hx1 : xi ≤ 255) (hy0 : 0 ≤ yi) (hy1 : yi ≤ 255) (hG : Glob w) :
    Calls Tryz.prog 4 #[.agg #[sv, cv, .string seed], .int .u8 xi, .int .u8 yi] w fun e w' => e = .returned (.bool true) ∧ Below w.heap.size w w' := by
  obtain ⟨i0, hi0, hz0, hz1, hz2⟩ := info_parts Tryz.infoI
  obtain ⟨a0, c0, rfl⟩ := hS.slice
  obtain ⟨a1, c1, rfl⟩ := hC.slice
  have hA := (Only.refl (fun _ => False) w).alloc (.cells #[.slice a0 S.length c0, .slice a1 C.length c1, .string seed] 24)
  have hzp := heap_alloc_last w (.cells #[.slice a0 S.length c0, .slice a1 C.length c1, .string seed] 24)
  have hAs : (w.alloc (.cells #[.slice a0 S.length c0, .slice a1 C.length c1, .string seed] 24)).heap.size = w.heap.size + 1 := by simp
  have HSAN := Lib.hid (sanity7_any _ (hG.only hA))
  have HA := Lib.hid hA
  have HZP := Lib.hid hzp
  have HSZ := Lib.hid hAs
  have HS := Lib.hid hS
  have HC := Lib.hid hC
  have HG := Lib.hid hG
  clear hA hzp hAs hS hC hG
  go_enter Tryz.func4, Tryz.ntmps4
  go_wp2_with fail
  refine HSAN.out.mono ?_
  rintro e w1 ⟨rfl, hO1⟩
  have HO1 := Lib.hid (HA.out.trans hO1)
  have HZP1 := Lib.hid (row_still hO1 HZP.out)
  have hs1 := hO1.size
  have HS1 := Lib.hid (show w.heap.size + 1 ≤ w1.heap.size by rw [← HSZ.out]; exact hs1)
  clear hO1 HSAN HZP HSZ HA hs1
  go_upto_region 2 with fail
  have p0 : _ = some (Value.slice a0 S.length c0) := cell_of_row _ _ 0 _ _ _ HZP1.out
  have p1 : _ = some (Value.slice a1 C.length c1) := cell_of_row _ _ 1 _ _ _ HZP1.out
  have p2 : _ = some (Value.string seed) := cell_of_row _ _ 2 _ _ _ HZP1.out
  have HKY := Lib.hid (show ∀ w', (w'.cell? ⟨w.heap.size, 0, none⟩ = some (.slice a0 S.length c0) ∧ w'.cell? ⟨w.heap.size, 1, none⟩ = some (.slice a1 C.length c1) ∧ w'.cell? ⟨w.heap.size, 2, none⟩ = some (.string seed) ∧ Only (fun _ => False) w1 w') →
      Calls Tryz.prog 8 #[.agg #[.slice a0 S.length c0, .slice a1 C.length c1, .string seed]] w' (fun e wT => (∃ v, e = .returned v ∧ wT.ownsRow w1.heap.size 3 1 v (keysL S).length (irow (keysL S))) ∧ (wT.cell? ⟨w.heap.size, 0, none⟩ = some (.slice a0 S.length c0) ∧ wT.cell? ⟨w.heap.size, 1, none⟩ = some (.slice a1 C.length c1) ∧ wT.cell? ⟨w.heap.size, 2, none⟩ = some (.string seed) ∧ Only (fun _ => False) w1 wT)) from by
    rintro w' ⟨s0, s1, s2, hO⟩
    refine (keys_any _ _ S seed w' (HS.out.only (HO1.out.trans hO)) ⟨_, _, _, rfl⟩ hSl).mono ?_
    rintro e wT ⟨v, rfl, hv, hT⟩
    exact ⟨⟨v, rfl, own_base hv hO.size⟩, hT.cell s0 (fun h => h), hT.cell s1 (fun h => h), hT.cell s2 (fun h => h), hO.trans hT⟩)
  have HNM := Lib.hid (show ∀ w', (w'.cell? ⟨w.heap.size, 0, none⟩ = some (.slice a0 S.length c0) ∧ w'.cell? ⟨w.heap.size, 1, none⟩ = some (.slice a1 C.length c1) ∧ w'.cell? ⟨w.heap.size, 2, none⟩ = some (.string seed) ∧ Only (fun _ => False) w1 w') →
      Calls Tryz.prog 9 #[.agg #[.slice a0 S.length c0, .slice a1 C.length c1, .string seed]] w' (fun e wT => (∃ v, e = .returned v ∧ wT.ownsRow w'.heap.size 3 1 v (numsL S C).length (irow (numsL S C))) ∧ Only (fun _ => False) w' wT ∧ (wT.cell? ⟨w.heap.size, 0, none⟩ = some (.slice a0 S.length c0) ∧ wT.cell? ⟨w.heap.size, 1, none⟩ = some (.slice a1 C.length c1) ∧ wT.cell? ⟨w.heap.size, 2, none⟩ = some (.string seed) ∧ Only (fun _ => False) w1 wT)) from by
    rintro w' ⟨s0, s1, s2, hO⟩
    refine (nums_any _ _ S C seed w' (HC.out.only (HO1.out.trans hO)) ⟨_, _, rfl⟩ hSl hCl).mono ?_
    rintro e wT ⟨v, rfl, hv, hT⟩
    exact ⟨⟨v, rfl, hv⟩, hT, hT.cell s0 (fun h => h), hT.cell s1 (fun h => h), hT.cell s2 (fun h => h), hO.trans hT⟩)
  have HKS := Lib.hid (show ∀ W, Only (fun _ => False) w1 W → W.cell? ⟨w.heap.size, 0, none⟩ = some (.slice a0 S.length c0) ∧ W.cell? ⟨w.heap.size, 1, none⟩ = some (.slice a1 C.length c1) ∧ W.cell? ⟨w.heap.size, 2, none⟩ = some (.string seed) ∧ Only (fun _ => False) w1 W from fun W h => ⟨h.cell p0 id, h.cell p1 id, h.cell p2 id, h⟩)
  have hK12 : (keysL S).length ≤ 12 := by have := keysL_len S; omega
  have hF12 : (numsL S C).length ≤ 12 := by have := numsL_len S C; omega
  have HKK := Lib.hid (show ∀ j, j < (keysL S).length → j < S.length ∧ ptAt (keysL S) j = powM 4 (ptAt S j % 1152921504606845789) 2305843009213691579 from fun j hj => by
    rw [keysL_len] at hj
    have h1 : j < (S.take 12).length := by rw [List.length_take]; omega
    refine ⟨by omega, ?_⟩
    unfold keysL
    rw [map_ptAt powF4 _ j h1, ptAt_take S 12 j (by omega)]
    rfl)
  have HFB := Lib.hid (show ∀ j, 0 ≤ ptAt (numsL S C) j ∧ ptAt (numsL S C) j < 1152921504606845789 from fun j => resF_bd _ j)
  have HOKF := Lib.hid (plan_ok S C)
  generalize keysL S = K at *
  generalize numsL S C = F at *
  go_cut [8, 9] (fun v6 v7 wx => Duo w1 wx w1.heap.size v6 v7 K F)
  case first =>
    go_region_held3 (fun w' => w'.cell? ⟨w.heap.size, 0, none⟩ = some (.slice a0 S.length c0) ∧ w'.cell? ⟨w.heap.size, 1, none⟩ = some (.slice a1 C.length c1) ∧ w'.cell? ⟨w.heap.size, 2, none⟩ = some (.string seed) ∧ Only (fun _ => False) w1 w')
      (first
        | with_reducible exact HKS.out _ ((Only.refl _ w1).drew)
        | with_reducible exact hSK
        | with_reducible exact hSN)
      (first
        | (go_at_call 8; refine (HKY.out _ (by assumption)).mono ?_; rintro e wK ⟨⟨vK, rfl, hvK⟩, hSK⟩)
        | (go_at_call 9; refine (HNM.out _ (by assumption)).mono ?_; rintro e wN ⟨⟨vN, rfl, hvN⟩, hXN, hSN⟩))
    all_goals (clear HKY HNM HKS)
    all_goals (go_wp2_with fail)
    all_goals (go_meet)
    all_goals (exact ⟨hXN.owns hvK (fun _ _ h => h), own_base hvN hSK.2.2.2.size, fun k hk he => by have := (own_lt hvK hk).1; have := (own_lt hvN he).2; omega, hSN.2.2.2, Nat.le_refl _⟩)
  case rest =>
    have HD := Lib.hid hcut
    generalize wc = w2 at *
    clear hcut HKY HNM HKS p0 p1 p2
    have hO2 := HD.out.only
    have HZP2 := Lib.hid (row_still hO2 HZP1.out)
    have HO2 := Lib.hid (HO1.out.trans hO2)
    have p2 : _ = some (Value.string seed) := cell_of_row _ _ 2 _ _ _ HZP2.out
    obtain ⟨a6, c6, rfl⟩ := slice_of_own HD.out.pts
    obtain ⟨a7, c7, rfl⟩ := slice_of_own HD.out.num
    have HKP := Lib.hid (fun (w' : World) (hO : Only (fun _ => False) w2 w') => (pts_of_own HD.out.pts (by omega)).only hO)
    have HFP := Lib.hid (fun (w' : World) (hO : Only (fun _ => False) w2 w') => (pts_of_own HD.out.num (by omega)).only hO)
    have HCM := Lib.hid (dealD_cm F K seed (by omega))
    have HBX := Lib.hid (dealD_bx F K seed (by omega))
    have HRD := Lib.hid (fun (w' : World) (hO : Only (fun _ => False) w2 w') => rdeal_any _ _ F K seed w' (HFP.out w' hO) (HKP.out w' hO) (by omega) (by omega) hsd)
    clear hO2
    by_cases hF0 : F.length = 0
    · have i1 : (F.length == 0) = true := by rw [hF0]; rfl
      have i2 : ((F.length : Int) == 0) = true := by rw [hF0]; rfl
      clear hF0 HRD HKP HFP HCM HBX HOKF
      go_wp2
      go_ret
      exact ⟨rfl, HO2.out.below (Nat.le_refl _) (fun _ _ h => h)⟩
    · have i1 : (F.length == 0) = false := beq_eq_false_iff_ne.2 hF0
      have i2 : ((F.length : Int) == 0) = false := beq_eq_false_iff_ne.2 (by omega)
      have HOK := Lib.hid (HOKF.out (by omega))
      obtain ⟨d1, hd1⟩ : ∃ d, dealD F K seed = d := ⟨_, rfl⟩
      have HDZ := Lib.hid (show d1 = dealZ F K seed by rw [← hd1]; unfold dealD; rw [HOK.out]; rfl)
      rw [HOK.out, hd1] at HRD
      rw [hd1] at HCM HBX
      have HBL := Lib.hid (show d1.bx.length = K.length by rw [HDZ.out]; exact bxTo_len _ _ _ _)
      have hK1 : 1 ≤ K.length := (dealOk_parts HOK.out).1
      have HSZ16 := Lib.hid (show ∀ j, j < K.length → (sAt d1.bx j).size = 16 from fun j hj => by
        rw [HDZ.out, show sAt (dealZ F K seed).bx j = _ from bxTo_at _ _ _ _ _ hj]
        unfold boxOf
        rw [strOf_size, sealL_len])
      clear hd1 HOKF hF0
      go_wp2_with fail
      refine (HRD.out _ (Only.refl _ _)).mono ?_
      rintro e w3 ⟨hO3, c0d, c2d, rfl, hD3⟩
      have HON3 := Lib.hid (slice_one hD3.cm hD3.bx d1.pt)
      have HFR3 := Lib.hid (And.intro (far_own (lo := w.heap.size + 1) (hi := w3.heap.size) hD3.cm (by have := HD.out.only.size; have := HS1.out; omega) (Nat.le_refl _)) (far_own (lo := w.heap.size + 1) (hi := w3.heap.size) HD.out.pts HS1.out hO3.size))
      have hDA3 := hD3.at (by have := HCM.out; omega) (by have := HBX.out; omega)
      obtain ⟨b0, k0, rfl⟩ := hDA3.cm.slice
      obtain ⟨gB, cB, curB, hv, hbB, hgB, hcB, hcB2, hszB, htkB⟩ : ∃ g cap cur, c2d = .slice (some ⟨g, 0, none⟩) d1.bx.length cap ∧ w2.heap.size ≤ g ∧ w3.heap[g]? = some (.cells cur 9 (0, 0)) ∧ d1.bx.length ≤ cap ∧ cap ≤ 9223372036854775807 ∧ True ∧ True := by
        rcases hD3.bx.2 with ⟨_, h0⟩ | ⟨g, cap, cur, hv, hbb, hg, h1, h2, _⟩
        · have := HBL.out; omega
        · exact ⟨g, cap, cur, hv, hbb, hg, h1, h2, trivial, trivial⟩
      subst hv
      have hg3 : gB < w3.heap.size := own_lt0D hgB
      have HAP := Lib.hid (And.intro (own_apart hD3.cm hgB (by decide)) (own_apart_lt HD.out.pts hbB))
      have hO4 := hO3.alloc (.cells #[.slice b0 d1.cm.length k0, .int .i64 d1.pt, .slice (some ⟨gB, 0, none⟩) d1.bx.length cB] 34)
      have HO4 := Lib.hid (HO2.out.trans hO4)
      have hA4 := (Only.refl (fun _ => False) w3).alloc (.cells #[.slice b0 d1.cm.length k0, .int .i64 d1.pt, .slice (some ⟨gB, 0, none⟩) d1.bx.length cB] 34)
      have HC4 := Lib.hid (hDA3.cm.only hA4)
      have HX4 := Lib.hid (hA4.owns hD3.bx (fun _ _ h => h))
      have HGB := Lib.hid (row_still hA4 hgB)
      have HN4 := Lib.hid (heap_alloc_last w3 (.cells #[.slice b0 d1.cm.length k0, .int .i64 d1.pt, .slice (some ⟨gB, 0, none⟩) d1.bx.length cB] 34))
      have HZP4 := Lib.hid (row_still hO4 HZP2.out)
      have HK4 := Lib.hid (HKP.out _ hO4)
      have HG4 := Lib.hid (HG.out.only HO4.out)
      have HLO := Lib.hid (show w.heap.size + 1 ≤ gB by have := HD.out.only.size; have := HS1.out; omega)
      have HLI := Lib.hid hg3
      clear hO3 hO4 hA4 hD3 hDA3 HRD hg3 hgB hbB HKP HFP p2 i1 i2
      have hbx := HBL.out
      obtain ⟨x, rfl⟩ := Int.eq_ofNat_of_zero_le hx0
      obtain ⟨y, rfl⟩ := Int.eq_ofNat_of_zero_le hy0
      have hn := Nat.mod_lt x (show 0 < K.length by omega)
      have ht1 : (x : Int) % (K.length : Int) = ((x % K.length : Nat) : Int) := by omega
      have ht2 : (x : Int).tmod (K.length : Int) = ((x % K.length : Nat) : Int) := rfl
      have ht3 : (y : Int) % 16 = ((y % 16 : Nat) : Int) := by omega
      have ht4 : (y : Int).tmod 16 = ((y % 16 : Nat) : Int) := rfl
      have ha := Nat.mod_lt y (show 0 < 16 by decide)
      generalize x % K.length = n at *
      generalize y % 16 = a at *
      have i5 : (K.length == 0) = false := beq_eq_false_iff_ne.2 (by omega)
      have i6 : ((K.length : Int) == 0) = false := beq_eq_false_iff_ne.2 (by omega)
      have hnb : n < d1.bx.length := by omega
      clear hbx
      go_upto_region 6 with (first | (refine wpList_store_row rfl 34 _ _ rfl w3.heap.size #[.slice b0 d1.cm.length k0, .int .i64 d1.pt, .slice (some ⟨gB, 0, none⟩) d1.bx.length cB] rfl rfl 34 _ (heap_alloc_last w3 _) Tryz.infoDl rfl HON3.out ?_; rw [World.setRow_alloc_new]))
      generalize w3.alloc (.cells #[.slice b0 d1.cm.length k0, .int .i64 d1.pt, .slice (some ⟨gB, 0, none⟩) d1.bx.length cB] 34) = w4 at *
      generalize w3.heap.size = n3 at *
      go_upto_region 7 with fail
      have f2 : _ = some (Value.slice (some ⟨gB, 0, none⟩) d1.bx.length cB) := cell_of_row _ _ 2 _ _ _ HN4.out
      have hsn := HSZ16.out n hn
      have hcl : w4.cell? ⟨gB, n, none⟩ = some (.string (sAt d1.bx n)) := by
        have := HX4.out.cells (g := gB) rfl n (.string (sAt d1.bx n)) (by simp [srowS, sAt, List.getD, show n < d1.bx.length by omega])
        have e : (⟨gB, 0, none⟩ : Addr).add n = ⟨gB, n, none⟩ := by unfold Addr.add; split <;> simp_all
        rw [e] at this
        exact this
      have HBS := Lib.hid (show ∀ m, bentS (sAt d1.bx n) a m = strOfNums (bentN (sAt d1.bx n) a m) from fun _ => rfl)
      have HBN := Lib.hid (show ∀ m j, j < 16 → ptAt (bentN (sAt d1.bx n) a m) j = if j = a then xor8 (byteZ (sAt d1.bx n) j) m else byteZ (sAt d1.bx n) j from fun m j hj => bentN_at _ a m j (by rw [hsn]; exact hj))
      have HBNL := Lib.hid (show ∀ m, (bentN (sAt d1.bx n) a m).length = 16 from fun m => by rw [bentN_len, hsn])
      have HSX := Lib.hid (show ∀ m (W : World), W.ownsRow w2.heap.size 9 1 (.slice (some ⟨gB, 0, none⟩) d1.bx.length cB) d1.bx.length (srowS d1.bx) → (W.setCell ⟨gB, n, none⟩ (.string (bentS (sAt d1.bx n) a m))).ownsRow w2.heap.size 9 1 (.slice (some ⟨gB, 0, none⟩) (bentD d1 n a m).bx.length cB) (bentD d1 n a m).bx.length (srowS (bentD d1 n a m).bx) from fun m W h => bent_strs h)
      have hcv := Lib.run_convert_string_bytes (P := Tryz.prog) w4 9 46 5 (sAt d1.bx n) Tryz.underlying9 Tryz.underlying46 Tryz.underlying5
      have hby := fun j (hj : j < 16) => Lib.bytesWorld_cell w4 5 (sAt d1.bx n) j (by omega)
      have hfr := fun j (hj : j < 16) => bytes_frozen w4 5 (sAt d1.bx n) j (by omega)
      have HO5 := Lib.hid (bytes_only w4 5 (sAt d1.bx n))
      have HS5 := Lib.hid (show (Lib.bytesWorld w4 5 (sAt d1.bx n)).heap.size = w4.heap.size + 1 from Lib.bytesWorld_size _ _ _)
      rw [hsn] at hcv
      have j1 : (n : Int) < d1.bx.length := by omega
      have j2 : 0 ≤ (n : Int) := by omega
      generalize Lib.bytesWorld w4 5 (sAt d1.bx n) = w5 at *
      generalize grownCap w4 16 0 5 = c5 at *
      have HSN := Lib.hid hsn
      have HBY := Lib.hid hby
      have HFZ := Lib.hid hfr
      clear hby hfr hsn
      go_upto_region 8 with fail
      have y0 : w5.cell? ⟨w4.heap.size, a, none⟩ = some (.int .u8 (byteZ (sAt d1.bx n) a)) := HBY.out a ha
      have y1 := HFZ.out a ha
      have HBZ := Lib.hid (show byteZ (sAt d1.bx n) a = byteZ (sAt d1.bx n) a from rfl)
      have hba := byteZ_bd (sAt d1.bx n) a
      obtain ⟨hba0, hba1⟩ := hba
      obtain ⟨ba, hbae⟩ : ∃ ba, byteZ (sAt d1.bx n) a = ba := ⟨_, rfl⟩
      rw [hbae] at y0 hba0 hba1
      have HBA := Lib.hid hbae
      have hm1 : 1 ≤ 1 + (y : Int) / 16 := by omega
      have hm2 : 1 + (y : Int) / 16 ≤ 16 := by omega
      have j3 : (a : Int) < 16 := by omega
      have j4 : 0 ≤ (a : Int) := by omega
      clear hbae hcv
      generalize hn5 : w4.heap.size = n5 at *
      have HN5 := Lib.hid hn5
      clear hn5
      go_upto_region 9 with fail
      have HBC := Lib.hid (bent_cells (W := w5) (g := n5) (b := sAt d1.bx n) (a := a) (m := 1 + (y : Int) / 16) HSN.out ha (fun j hj => HBY.out j hj))
      rw [HBA.out] at HBC
      have HSX2 := Lib.hid (fun W h => HSX.out (1 + (y : Int) / 16) W h)
      rw [HBS.out] at HSX2
      have HBL2 := Lib.hid (HBNL.out (1 + (y : Int) / 16))
      have HO46 : Only (fun _ => False) w4 (w5.setCell ⟨n5, a, none⟩ (.int .u8 (bits BinOp.xor IntKind.u8 ba (1 + (y : Int) / 16)))) := HO5.out.setCell (.inr (by have := HN5.out; show w4.heap.size ≤ n5; omega)) _
      have HX6 := Lib.hid (HO46.owns HX4.out (fun _ _ h => h))
      have hcl6 := HO46.cell hcl id
      have f26 := HO46.cell f2 id
      have hfr6 : (w5.setCell ⟨n5, a, none⟩ (.int .u8 (bits BinOp.xor IntKind.u8 ba (1 + (y : Int) / 16)))).frozen? ⟨gB, n, none⟩ = false := frozen_of_row _ _ n _ _ (row_still HO46 HGB.out)
      have hcv2 := run_convert_bytes_arg (P := Tryz.prog) (w5.setCell ⟨n5, a, none⟩ (.int .u8 (bits BinOp.xor IntKind.u8 ba (1 + (y : Int) / 16)))) 46 5 Tryz.underlying46 Tryz.underlying5 n5 0 16 c5 (bentN (sAt d1.bx n) a (1 + (y : Int) / 16)) HBL2.out (fun j hj => HBC.out j hj) 9 Tryz.underlying9
      have HO46 := Lib.hid HO46
      clear HBC HBL2 HBNL HBS HSX HBN HBY HFZ hcl f2 y0 y1
      generalize w5.setCell ⟨n5, a, none⟩ (.int .u8 (bits BinOp.xor IntKind.u8 ba (1 + (y : Int) / 16))) = w6 at *
      obtain ⟨sB, hsB⟩ : ∃ s, strOfNums (bentN (sAt d1.bx n) a (1 + (y : Int) / 16)) = s := ⟨_, rfl⟩
      rw [hsB] at hcv2 HSX2
      clear hsB
      have HO47 : Only (fun b => b = gB) w4 (w6.setCell ⟨gB, n, none⟩ (.string sB)) := by
        have h1 : Only (fun b => b = gB) w4 w6 := HO46.out.mono (fun _ _ h => h.elim)
        exact h1.setCell (p := ⟨gB, n, none⟩) (.inl rfl) _
      have HX7 := HSX2.out w6 HX6.out
      have hc4 := HC4.out
      have hk4 := HK4.out
      rw [← HN5.out] at hc4 hk4
      have HD7 := Lib.hid (show DlAt (w6.setCell ⟨gB, n, none⟩ (.string sB)) (.slice b0 d1.cm.length k0) (.int .i64 d1.pt) (.slice (some ⟨gB, 0, none⟩) (bentD d1 n a (1 + (y : Int) / 16)).bx.length cB) (bentD d1 n a (1 + (y : Int) / 16)) from ⟨pts_apart HO47 HAP.out.1 hc4, rfl, strs_of_own HX7 (by rw [bentD_len]; have := HBX.out; omega)⟩)
      have HK7 := Lib.hid (pts_apart HO47 HAP.out.2 hk4)
      have HN7 := Lib.hid (row_far HO47 HN4.out (by have := HLI.out; omega))
      have HZP7 := Lib.hid (row_far HO47 HZP4.out (by have := HLO.out; omega))
      have HO7 := Lib.hid (show Only (fun _ => False) w (w6.setCell ⟨gB, n, none⟩ (.string sB)) from (HO4.out.trans HO46.out).setCell (.inr (by have := HLO.out; show w.heap.size ≤ gB; omega)) _)
      clear hc4 hk4 HO47 HX7 HX6 HO5 HS5 HSX2 HX4 HGB HN4 HZP4 HK4 HC4 HG4 HO4 HAP HLO
      obtain ⟨d2, hd2⟩ : ∃ d, bentD d1 n a (1 + (y : Int) / 16) = d := ⟨_, rfl⟩
      have HN8 := Lib.hid (show (w6.setCell ⟨gB, n, none⟩ (.string sB)).heap[n3]? = some (.cells #[.slice b0 d2.cm.length k0, .int .i64 d2.pt, .slice (some ⟨gB, 0, none⟩) d2.bx.length cB] 34 (0, 0)) by rw [← hd2, bentD_len]; exact HN7.out)
      have HD8 := Lib.hid (show DlAt (w6.setCell ⟨gB, n, none⟩ (.string sB)) (.slice b0 d2.cm.length k0) (.int .i64 d2.pt) (.slice (some ⟨gB, 0, none⟩) d2.bx.length cB) d2 by rw [← hd2]; exact HD7.out)
      have HCM2 := Lib.hid (show d2.cm.length ≤ 1000000 by rw [← hd2]; exact HCM.out)
      have HBX2 := Lib.hid (show d2.bx.length ≤ 1000000 by rw [← hd2, bentD_len]; exact HBX.out)
      have HBL3 := Lib.hid (show d2.bx.length = K.length by rw [← hd2, bentD_len]; exact HBL.out)
      have HSZ2 := Lib.hid (show ∀ i, (sAt d2.bx i).size ≤ 9223372036854775807 from fun i => by
        by_cases hi : i < K.length
        · rw [← hd2, bentD_at _ _ _ _ _ (by rw [HBL.out]; exact hn)]
          split
          · rw [bent_size, HSZ16.out n hn]; decide
          · rw [HSZ16.out i hi]; decide
        · have : sAt d2.bx i = ByteArray.empty := by
            unfold sAt
            rw [List.getD, List.getElem?_eq_none (by rw [HBL3.out]; omega)]; rfl
          rw [this]; decide)
      have HPT2 := Lib.hid (show memB d2.pt = true by rw [← hd2, HDZ.out]; exact pt_dealt F K seed)
      have HUN := Lib.hid (show ∀ k, k < K.length → (unsV d2 (seedN d2 (ptAt S k)).toNat k).2.2 = !(k == n) from fun k hk => by
        rw [← hd2, HDZ.out]
        exact gy_open seed HOK.out hk hn ha ⟨hm1, hm2⟩ (HKK.out k hk).2)
      have HJZ := Lib.hid (show ∀ k : Nat, k < K.length → judgeZ K d2 k (seedN d2 (ptAt S k)) (pfC (ptAt S k % 1152921504606845789) 4 d2.pt) (pfZ (ptAt S k % 1152921504606845789) 4 d2.pt) = if k = n then 1 else 2 from fun k hk => by
        rw [← hd2, HDZ.out]
        exact gy_judge seed HOK.out hk hn ha ⟨hm1, hm2⟩ (HKK.out k hk).2)
      have HKS := Lib.hid (fun k hk => (HKK.out k hk).1)
      clear hd2 HN7 HD7 HCM HBX HBL HDZ HSZ16 HKK HFB HOK HSN HBA HLI HZP1 HZP2 HO2 HO1 HD HN5 HO46
      go_upto_region 10 with fail
      clear hcv2 hcl6 f26 hfr6
      generalize w6.setCell ⟨gB, n, none⟩ (.string sB) = w7 at *
      have HG7 := Lib.hid (HG.out.only HO7.out)
      have HS7 := Lib.hid (fun W (hW : Only (fun _ => False) w7 W) => HS.out.only (HO7.out.trans hW))
      go_wp2_with fail
      go_loopw [67] (fun v wr => ∃ k : Nat, k ≤ K.length ∧ v = .int .i64 k ∧ Only (fun _ => False) w7 wr) (fun v _ => K.length - (intOf v).toNat)
      case atStart => exact ⟨0, Nat.zero_le _, rfl, Only.refl _ _⟩
      case round =>
        obtain ⟨k, hk, rfl, hO⟩ := hrel
        have HO := Lib.hid hO
        by_cases hlt : k < K.length
        · have hks := HKS.out k hlt
          obtain ⟨sb, so, hse, hsb, hsl, hsc1, hsc2, hcell⟩ := (HS7.out wr hO).cellAt (k := k) hks
          cases hse
          have HOP := Lib.hid (fun W (hW : Only (fun _ => False) wr W) => open_yes b0 (some ⟨gB, 0, none⟩) k0 cB d2 (ptAt S k) k W (HD8.out.only (hO.trans hW)) HCM2.out HBX2.out (by rw [HBL3.out]; exact hlt) (HSZ2.out k) (HG7.out.only (hO.trans hW)))
          have HCP := Lib.hid (fun W (hW : Only (fun _ => False) wr W) => complain_yes b0 (some ⟨gB, 0, none⟩) k0 cB d2 (ptAt S k) k W HBX2.out (by rw [HBL3.out]; exact hlt) HPT2.out (HG7.out.only (hO.trans hW)))
          have HJG := Lib.hid (fun W (hW : Only (fun _ => False) wr W) => judge_any a6 b0 (some ⟨gB, 0, none⟩) c6 k0 cB K d2 k (seedN d2 (ptAt S k)) (pfC (ptAt S k % 1152921504606845789) 4 d2.pt) (pfZ (ptAt S k % 1152921504606845789) 4 d2.pt) W (HK7.out.only (hO.trans hW)) (HD8.out.only (hO.trans hW)) HCM2.out HBX2.out (by omega) HSZ2.out (HG7.out.only (hO.trans hW)))
          rw [HJZ.out k hlt] at HJG
          rw [HUN.out k hlt] at HOP
          generalize (unsV d2 (seedN d2 (ptAt S k)).toNat k).1 = r1 at *
          generalize (unsV d2 (seedN d2 (ptAt S k)).toNat k).2.1 = r2 at *
          generalize pfC (ptAt S k % 1152921504606845789) 4 d2.pt = pc at *
          generalize pfZ (ptAt S k % 1152921504606845789) 4 d2.pt = pz at *
          generalize seedN d2 (ptAt S k) = sn at *
          generalize ptAt S k = sk at *
          obtain ⟨okk, hokk⟩ : ∃ b, (!(k == n)) = b := ⟨_, rfl⟩
          rw [hokk] at HOP
          have HOKK := Lib.hid hokk
          have p0 : _ = some (Value.slice (some ⟨sb, so, none⟩) S.length c0) := cell_of_row _ _ 0 _ _ _ (row_still hO HZP7.out)
          have f0 : _ = some (Value.slice b0 d2.cm.length k0) := cell_of_row _ _ 0 _ _ _ (row_still hO HN8.out)
          have f1 : _ = some (Value.int .i64 d2.pt) := cell_of_row _ _ 1 _ _ _ (row_still hO HN8.out)
          have f2 : _ = some (Value.slice (some ⟨gB, 0, none⟩) d2.bx.length cB) := cell_of_row _ _ 2 _ _ _ (row_still hO HN8.out)
          have i1 : (k : Int) < K.length := by omega
          have i2 : 0 ≤ (k : Int) := by omega
          have i3 : (k : Int) < S.length := by omega
          clear hO hokk hsl hk
          go_upto_region 13 with fail
          have HPO := Lib.hid (show ∀ w', (w'.cell? ⟨w.heap.size, 0, none⟩ = some (.slice (some ⟨sb, so, none⟩) S.length c0) ∧ w'.cell? ⟨sb, so + k, none⟩ = some (.int .i64 sk) ∧ w'.cell? ⟨n3, 0, none⟩ = some (.slice b0 d2.cm.length k0) ∧ w'.cell? ⟨n3, 1, none⟩ = some (.int .i64 d2.pt) ∧ w'.cell? ⟨n3, 2, none⟩ = some (.slice (some ⟨gB, 0, none⟩) d2.bx.length cB) ∧ Only (fun _ => False) wr w') →
              Calls Tryz.prog 19 #[.int .i64 sk, .agg #[.slice b0 d2.cm.length k0, .int .i64 d2.pt, .slice (some ⟨gB, 0, none⟩) d2.bx.length cB], .int .i64 k] w' (fun e wT => (e = .returned (.tuple #[.agg #[.int .i64 r1, .int .i64 r2], .bool okk]) ∧ Only (fun _ => False) w' wT) ∧ Only (fun _ => False) wr wT) from by
            rintro w' ⟨_, _, _, _, _, hOw⟩
            exact (HOP.out w' hOw).mono fun e wT h => ⟨h, hOw.trans h.2⟩)
          have HKS2 := Lib.hid (show ∀ W, Only (fun _ => False) wr W → W.cell? ⟨w.heap.size, 0, none⟩ = some (.slice (some ⟨sb, so, none⟩) S.length c0) ∧ W.cell? ⟨sb, so + k, none⟩ = some (.int .i64 sk) ∧ W.cell? ⟨n3, 0, none⟩ = some (.slice b0 d2.cm.length k0) ∧ W.cell? ⟨n3, 1, none⟩ = some (.int .i64 d2.pt) ∧ W.cell? ⟨n3, 2, none⟩ = some (.slice (some ⟨gB, 0, none⟩) d2.bx.length cB) ∧ Only (fun _ => False) wr W from fun W h => ⟨h.cell p0 id, h.cell hcell id, h.cell f0 id, h.cell f1 id, h.cell f2 id, h⟩)
          have HCE := Lib.hid hcell
          go_cut [16] (fun v16 wx => v16 = .bool okk ∧ Only (fun _ => False) wr wx)
          case first =>
            go_region_held3 (fun w' => w'.cell? ⟨w.heap.size, 0, none⟩ = some (.slice (some ⟨sb, so, none⟩) S.length c0) ∧ w'.cell? ⟨sb, so + k, none⟩ = some (.int .i64 sk) ∧ w'.cell? ⟨n3, 0, none⟩ = some (.slice b0 d2.cm.length k0) ∧ w'.cell? ⟨n3, 1, none⟩ = some (.int .i64 d2.pt) ∧ w'.cell? ⟨n3, 2, none⟩ = some (.slice (some ⟨gB, 0, none⟩) d2.bx.length cB) ∧ Only (fun _ => False) wr w')
              (first
                | with_reducible exact HKS2.out _ ((Only.refl _ wr).drew)
                | with_reducible exact HKS2.out _ hSO
                | with_reducible exact HKS2.out _ (hSO.alloc _)
                | with_reducible exact HKS2.out _ ((Only.refl _ wr).drew.alloc _)
                | with_reducible exact HKS2.out _ (((Only.refl _ wr).alloc _).drew)
                | with_reducible exact HKS2.out _ ((hSO.setCell (.inr hge) _).setCell (.inr hge) _))
              (first
                | (go_at_call 19; refine (HPO.out _ (by assumption)).mono ?_; rintro e wO ⟨⟨rfl, hOO⟩, hSO⟩
                   first
                     | (have hBk := dl_blk2D hOO; have hge := Nat.le_refl wr.heap.size; have z0 := cell_of_row _ _ 0 _ _ _ hBk; have z1 := cell_of_row _ _ 1 _ _ _ hBk; have g0 := frozen_of_row _ _ 0 _ _ hBk; have g1 := frozen_of_row _ _ 1 _ _ hBk; have lB := own_lt0D hBk)
                     | (have hBk := dl_blkD hOO; have hge := Nat.le_refl wr.heap.size; have z0 := cell_of_row _ _ 0 _ _ _ hBk; have z1 := cell_of_row _ _ 1 _ _ _ hBk; have g0 := frozen_of_row _ _ 0 _ _ hBk; have g1 := frozen_of_row _ _ 1 _ _ hBk; have lB := own_lt0D hBk)
                     | skip))
            all_goals (clear HPO HKS2 HOP)
            all_goals (go_wp2_with fail)
            all_goals (go_meet)
            all_goals first
              | exact ⟨rfl, hSO.alloc _⟩
              | exact ⟨rfl, (hSO.setCell (.inr (Nat.le_refl _)) _).setCell (.inr (Nat.le_refl _)) _⟩
          case rest =>
            obtain ⟨rfl, hOx⟩ := hcut
            generalize wc = wx at *
            have HOx := Lib.hid hOx
            have HOx2 := Lib.hid (HO.out.trans hOx)
            have s0 : _ = some (Value.slice (some ⟨sb, so, none⟩) S.length c0) := hOx.cell p0 id
            have s1 := hOx.cell HCE.out id
            have s2 : _ = some (Value.slice b0 d2.cm.length k0) := hOx.cell f0 id
            have s3 : _ = some (Value.int .i64 d2.pt) := hOx.cell f1 id
            have s4 : _ = some (Value.slice (some ⟨gB, 0, none⟩) d2.bx.length cB) := hOx.cell f2 id
            have HCP := Lib.hid (fun W (hW : Only (fun _ => False) wx W) => HCP.out W (hOx.trans hW))
            have HJG := Lib.hid (fun W (hW : Only (fun _ => False) wx W) => HJG.out W (hOx.trans hW))
            clear hOx HPO HKS2 HOP p0 f0 f1 f2 hcell HCE
            by_cases e : k = n
            · have HE2 := Lib.hid (show okk = false by rw [← HOKK.out, e]; simp)
              rw [if_pos e] at HJG
              have q1 : (k == n) = true := by rw [e]; simp
              have q2 : ((k : Int) == (n : Int)) = true := by rw [e]; simp
              obtain rfl := HE2.out
              clear e
              go_upto_region 17 with fail
              have y0 := fun (d : Nat) (os : Array Obj) => cell_regrown s0 d os
              have y1 := fun (d : Nat) (os : Array Obj) => cell_regrown s1 d os
              have y2 := fun (d : Nat) (os : Array Obj) => cell_regrown s2 d os
              have y3 := fun (d : Nat) (os : Array Obj) => cell_regrown s3 d os
              have y4 := fun (d : Nat) (os : Array Obj) => cell_regrown s4 d os
              clear s0 s1 s2 s3 s4
              refine wp_region_quiet_below (by kernel_rfl) (by kernel_rfl) ?_
              repeat (go_big_quiet_step ((first | (go_at_call 13; exact Calls.regrown_of ((HCP.out _ (Only.ofBelow (below_regrown _ _ _) _)).mono fun _ _ h => ⟨h.1, h.2.below (Nat.le_refl _) (fun _ _ h => h)⟩)) | (go_at_call 11; exact Calls.regrown_of ((HJG.out _ (Only.ofBelow (below_regrown _ _ _) _)).mono fun _ _ h => ⟨h.1, h.2.below (Nat.le_refl _) (fun _ _ h => h)⟩)))))
              refine wpQuiet_nil ?_
              intro wy hw'
              obtain ⟨pq, hw''⟩ := hw'
              have HOy := Lib.hid (Only.ofBelow (below_regrown wx pq.d pq.os) (fun _ => False))
              rw [← hw''] at HOy
              have HOz := Lib.hid (HOx2.out.trans HOy.out)
              clear hw'' y0 y1 y2 y3 y4
              go_wp2
              go_roundw
              case rel => exact ⟨k + 1, by omega, by go_num, HOz.out⟩
              case measure => simp [intOf]; omega
            · have HE2 := Lib.hid (show okk = true by rw [← HOKK.out]; simp [e])
              rw [if_neg e] at HJG
              have q1 : (k == n) = false := by simpa using e
              have q2 : ((k : Int) == (n : Int)) = false := beq_eq_false_iff_ne.2 (by omega)
              obtain rfl := HE2.out
              clear e
              go_upto_region 17 with fail
              have y0 := fun (d : Nat) (os : Array Obj) => cell_regrown s0 d os
              have y1 := fun (d : Nat) (os : Array Obj) => cell_regrown s1 d os
              have y2 := fun (d : Nat) (os : Array Obj) => cell_regrown s2 d os
              have y3 := fun (d : Nat) (os : Array Obj) => cell_regrown s3 d os
              have y4 := fun (d : Nat) (os : Array Obj) => cell_regrown s4 d os
              clear s0 s1 s2 s3 s4
              refine wp_region_quiet_below (by kernel_rfl) (by kernel_rfl) ?_
              repeat (go_big_quiet_step ((first | (go_at_call 13; exact Calls.regrown_of ((HCP.out _ (Only.ofBelow (below_regrown _ _ _) _)).mono fun _ _ h => ⟨h.1, h.2.below (Nat.le_refl _) (fun _ _ h => h)⟩)) | (go_at_call 11; exact Calls.regrown_of ((HJG.out _ (Only.ofBelow (below_regrown _ _ _) _)).mono fun _ _ h => ⟨h.1, h.2.below (Nat.le_refl _) (fun _ _ h => h)⟩)))))
              refine wpQuiet_nil ?_
              intro wy hw'
              obtain ⟨pq, hw''⟩ := hw'
              have HOy := Lib.hid (Only.ofBelow (below_regrown wx pq.d pq.os) (fun _ => False))
              rw [← hw''] at HOy
              have HOz := Lib.hid (HOx2.out.trans HOy.out)
              clear hw'' y0 y1 y2 y3 y4
              go_wp2
              go_roundw
              case rel => exact ⟨k + 1, by omega, by go_num, HOz.out⟩
              case measure => simp [intOf]; omega
        · obtain rfl : k = K.length := by omega
          have i1 : ¬ (K.length : Int) < K.length := by omega
          have HOz := Lib.hid (HO7.out.trans HO.out)
          clear hO hk hlt
          go_wp2
          go_ret
          exact ⟨rfl, HOz.out.below (Nat.le_refl _) (fun _ _ h => h)⟩
end Go.Proofs.YtnnhbngdhhfofaaGreatDoor
