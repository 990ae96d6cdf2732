/-
  Rules: names and numbers of a plan.
  Rules, plain: the draw of a plan.
  Rules: an entrant; the reference's Strings and SameEntrant; the program's rightEntrant.
  Rules: the program's rightEntrant and PrintEntrant.
  Rules: the program's PrintEntrant.
-/
import Derived.Test.YteikkpiginfbkaaGreatDoorPh31
import Derived.Test.YteikkpiginfbkaaGreatDoorPh30
import Derived.Test.YteikkpiginfbkaaGreatDoorPh25
namespace Go.Proofs.YteikkpiginfbkaaGreatDoor
open Go.RowKit

theorem tmod_fixR (a m : Int) (h : 0 < m) : (if a.tmod m < 0 then a.tmod m + m else a.tmod m) = a % m := by
  have h2 := Int.tmod_lt_of_pos a h
  have h3 := Int.lt_tmod_of_pos a h
  have h4 := Int.mul_tdiv_add_tmod a m
  have h5 := Int.mul_ediv_add_emod a m
  have h6 := Int.emod_nonneg a (show m ≠ 0 by omega)
  have h7 := Int.emod_lt_of_pos a h
  have e : (a % m - a.tmod m) = m * (a.tdiv m - a / m) := by rw [Int.mul_sub]; omega
  generalize a.tdiv m - a / m = k at e
  split
  · have : k = 1 := by
      rcases Int.lt_trichotomy k 1 with hk | hk | hk
      · have := Int.mul_le_mul_of_nonneg_left (show k ≤ 0 by omega) (show (0:Int) ≤ m by omega); omega
      · exact hk
      · have := Int.mul_le_mul_of_nonneg_left (show 2 ≤ k by omega) (show (0:Int) ≤ m by omega); omega
    rw [this] at e; omega
  · have : k = 0 := by
      rcases Int.lt_trichotomy k 0 with hk | hk | hk
      · have := Int.mul_le_mul_of_nonneg_left (show k ≤ -1 by omega) (show (0:Int) ≤ m by omega); omega
      · exact hk
      · have := Int.mul_le_mul_of_nonneg_left (show 1 ≤ k by omega) (show (0:Int) ≤ m by omega); omega
    rw [this] at e; omega
set_option maxRecDepth 100000 in
set_option maxHeartbeats 4000000 in
theorem rmodR_any (a m : Int) (w : World) (hm : 0 < m) (hm2 : m ≤ 1000000000000000000) :
    Calls Tryz.prog 22 #[.int .i64 a, .int .i64 m] w fun e w' => e = .returned (.int .i64 (a % m)) ∧ w = w' := by
  have h1 := Int.lt_tmod_of_pos a hm
  have h2 := Int.tmod_lt_of_pos a hm
  have hz : (m == 0) = false := beq_eq_false_iff_ne.2 (by omega)
  have hf2 : (a.tmod m + m) % m = a % m := by
    have e := tmod_fixR a m hm
    by_cases h0 : a.tmod m < 0
    · rw [if_pos h0] at e
      rw [← e, Int.emod_eq_of_lt (by omega) (by omega)]
    · rw [if_neg h0] at e
      rw [← e, Int.add_emod_right, Int.emod_eq_of_lt (by omega) (by omega)]
  have HF := Lib.hid (show (a.tmod m + m).tmod m = a % m by rw [Int.tmod_eq_emod_of_nonneg (by omega)]; exact hf2)
  have HF2 := Lib.hid hf2
  clear hf2
  have HW := Lib.hid (show IntKind.i64.wrap (a.tmod m + m) = a.tmod m + m from IntWalk.i64_in _ (by omega))
  have h3 := Int.emod_nonneg a (show m ≠ 0 by omega)
  have h4 := Int.emod_lt_of_pos a hm
  go_enter Tryz.func22, Tryz.ntmps22
  go_wp2
  go_ret
  refine ⟨ret_int ?_, rfl⟩
  first | exact HF.out | exact HF2.out
def namesP : List ByteArray := [⟨#[97]⟩, ⟨#[98]⟩, ⟨#[110, 111, 114, 116, 104]⟩, ⟨#[83, 111, 117, 116, 104, 45, 50]⟩, ⟨#[99]⟩, ⟨#[100, 45]⟩, ⟨#[101, 55]⟩, ⟨#[102]⟩, ⟨#[103]⟩, ⟨#[97, 98, 99, 100, 101, 102, 103, 104, 105, 106, 107, 108, 109, 110, 111, 112, 113, 114, 115, 116]⟩, ⟨#[104]⟩, ⟨#[105]⟩, ⟨#[106]⟩, ⟨#[107]⟩, ⟨#[]⟩, ⟨#[55, 97]⟩, ⟨#[116, 119, 111, 32, 119, 111, 114, 100, 115]⟩, ⟨#[97, 98, 99, 100, 101, 102, 103, 104, 105, 106, 107, 108, 109, 110, 111, 112, 113, 114, 115, 116, 117]⟩, ⟨#[97, 10]⟩, ⟨#[45]⟩]
/-- The number of a name, and the number, of a plan. -/
def nmZ (wild : Bool) (n : Int) : ByteArray := namesP.getD (n % (if wild then 20 else 14)).toNat ByteArray.empty
def nbZ (wild : Bool) (n : Int) : Int := if wild then n else n % 1000000001
theorem nm_ok (n : Int) : nameB (nmZ false n) = true := by
  unfold nmZ
  have h1 := Int.emod_nonneg n (show (14 : Int) ≠ 0 by decide)
  have h2 := Int.emod_lt_of_pos n (show (0 : Int) < 14 by decide)
  have : ∀ k, k < 14 → nameB (namesP.getD k ByteArray.empty) = true := by decide
  exact this _ (by simp; omega)
theorem nm_len (wild : Bool) (n : Int) : (nmZ wild n).size ≤ 21 := by
  unfold nmZ
  generalize (n % (if wild then 20 else 14)).toNat = k
  have : ∀ k, k < 20 → (namesP.getD k ByteArray.empty).size ≤ 21 := by decide
  by_cases h : k < 20
  · exact this k h
  · rw [show namesP.getD k ByteArray.empty = ByteArray.empty by simp [List.getD, List.getElem?_eq_none (show namesP.length ≤ k by show 20 ≤ k; omega)]]; decide
theorem nb_ok (n : Int) : rgB (nbZ false n) = true := by
  have h1 := Int.emod_nonneg n (show (1000000001 : Int) ≠ 0 by decide)
  have h2 := Int.emod_lt_of_pos n (show (0 : Int) < 1000000001 by decide)
  unfold nbZ rgB
  simp
  omega
theorem nb_R64 (wild : Bool) (n : Int) (h : R64 n) : R64 (nbZ wild n) := by
  cases wild
  · exact rg_R64 (nb_ok n)
  · exact h
theorem names_at (wild : Bool) (n : Int) : ∃ k : Nat, (k : Int) = n % (if wild then 20 else 14) ∧ k < 20 ∧ namesP[k]? = some (nmZ wild n) := by
  have h1 := Int.emod_nonneg n (show (14 : Int) ≠ 0 by decide)
  have h2 := Int.emod_lt_of_pos n (show (0 : Int) < 14 by decide)
  have h3 := Int.emod_nonneg n (show (20 : Int) ≠ 0 by decide)
  have h4 := Int.emod_lt_of_pos n (show (0 : Int) < 20 by decide)
  have hk : (n % (if wild then 20 else 14)).toNat < 20 := by cases wild <;> simp <;> omega
  refine ⟨(n % (if wild then 20 else 14)).toNat, by cases wild <;> simp <;> omega, hk, ?_⟩
  unfold nmZ
  rw [List.getD_eq_getElem?_getD]
  have : (n % (if wild then 20 else 14)).toNat < namesP.length := hk
  rw [List.getElem?_eq_getElem this]; rfl
/-- A plan, and its cells. -/
structure Plan13 where
  kind : Int
  h0 : Int
  h1 : Int
  h2 : Int
  h3 : Int
  h4 : Int
  h5 : Int
  lines : List (Int × Int × Int)
  roll : Bool
  barred : List Int
  wild : Bool
def plCells (p : Plan13) (vl vb : Value) : Array Value :=
  #[.int .i64 p.kind, .int .i64 p.h0, .int .i64 p.h1, .int .i64 p.h2, .int .i64 p.h3, .int .i64 p.h4, .int .i64 p.h5, vl, .bool p.roll, vb, .bool p.wild]
theorem Tryz.infoP13 : (Tryz.prog.info? 26).map (·.size) = some 11 := by kernel_rfl
set_option maxRecDepth 100000 in
set_option maxHeartbeats 4000000 in
theorem number_any13 (p : Plan13) (vl vb : Value) (n : Int) (w : World) :
    Calls Tryz.prog 32 #[.agg (plCells p vl vb), .int .i64 n] w fun e w' => e = .returned (.int .i64 (nbZ p.wild n)) ∧ Only (fun _ => False) w w' := by
  have HZ := Lib.hid (heap_alloc_last w (.cells (plCells p vl vb) 26))
  have HO := Lib.hid ((Only.refl (fun _ => False) w).alloc (.cells (plCells p vl vb) 26))
  go_enter Tryz.func32, Tryz.ntmps32
  go_upto_region 1 with (fail)
  generalize World.alloc w _ = w1 at *
  have c5 : w1.cell? ⟨w.heap.size, 10, none⟩ = some (Value.bool p.wild) := cell_of_row _ _ 10 _ _ _ HZ.out
  have hlt0 : w.heap.size < w1.heap.size := (Array.getElem?_eq_some_iff.1 HZ.out).1
  cases hw : p.wild
  · rw [hw] at c5
    go_wp2_with fail
    refine (rmodR_any n 1000000001 w1 (by decide) (by decide)).mono ?_
    rintro e w2 ⟨rfl, rfl⟩
    go_wp2_with fail
    go_ret
    exact ⟨by rw [hw]; rfl, HO.out⟩
  · rw [hw] at c5
    go_wp2_with fail
    go_ret
    exact ⟨by rw [hw]; rfl, HO.out⟩
def namesV : List Value := namesP.map .string
set_option maxRecDepth 100000 in
set_option maxHeartbeats 4000000 in
theorem nameP_any (n : Int) (wild : Bool) (w : World) :
    Calls Tryz.prog 31 #[.int .i64 n, .bool wild] w fun e w' => e = .returned (.string (nmZ wild n)) ∧ Only (fun _ => False) w w' := by
  obtain ⟨k, hk, hk2, hk3⟩ := names_at wild n
  have HK := Lib.hid hk
  have HK3 := Lib.hid hk3
  have HO := Lib.hid ((Only.refl (fun _ => False) w).alloc (.cells namesV.toArray 9))
  have HZ := Lib.hid (heap_alloc_last w (.cells namesV.toArray 9))
  have HV := Lib.hid (show namesV.toArray[k]? = some (Value.string (nmZ wild n)) by rw [List.getElem?_toArray]; unfold namesV; rw [List.getElem?_map, hk3]; rfl)
  clear hk hk3
  go_enter Tryz.func31, Tryz.ntmps31
  go_upto_region 2 with (fail)
  change World at w
  have hww : w.alloc (.cells namesV.toArray 9) = w.alloc (.cells namesV.toArray 9) := rfl
  unfold namesV namesP at HZ HO hww
  simp only [List.map_cons, List.map_nil] at HZ HO hww
  generalize World.alloc w _ = w1 at *
  have hlt0 : w.heap.size < w1.heap.size := (Array.getElem?_eq_some_iff.1 HZ.out).1
  have c : w1.cell? ⟨w.heap.size, k, none⟩ = some (Value.string (nmZ wild n)) := (cell_of_row _ _ k _ _ _ HZ.out).trans HV.out
  have j1 : 0 ≤ (k : Int) := by omega
  have j2 : (k : Int) < 20 := by omega
  cases wild
  · go_wp2_with fail
    refine (rmodR_any n 14 w1 (by decide) (by decide)).mono ?_
    rintro e w2 ⟨rfl, rfl⟩
    rw [show n % 14 = (k : Int) from HK.out.symm]
    go_wp2_with fail
    go_ret
    exact ⟨rfl, HO.out⟩
  · go_wp2_with fail
    refine (rmodR_any n 20 w1 (by decide) (by decide)).mono ?_
    rintro e w2 ⟨rfl, rfl⟩
    rw [show n % 20 = (k : Int) from HK.out.symm]
    go_wp2_with fail
    go_ret
    exact ⟨rfl, HO.out⟩
end Go.Proofs.YteikkpiginfbkaaGreatDoor

namespace Go.Proofs.YteikkpiginfbkaaGreatDoor
open Go.RowKit

/-- The numbers of a plan are words of 64 bits. -/
structure Pl64 (p : Plan13) : Prop where
  h1 : R64 p.h1
  h2 : R64 p.h2
  h3 : R64 p.h3
  h4 : R64 p.h4
  lines : ∀ x ∈ p.lines, R64 x.2.1 ∧ R64 x.2.2
  barred : ∀ x ∈ p.barred, R64 x
def kdZ (p : Plan13) : Int := 1 + p.kind % 3
theorem kd_123 (p : Plan13) : kdZ p = 1 ∨ kdZ p = 2 ∨ kdZ p = 3 := by unfold kdZ; omega
def baseD (p : Plan13) : Dr :=
  { name := nmZ p.wild p.h0, kind := kdZ p, round := nbZ p.wild p.h1, price := nbZ p.wild p.h2
    pool := if kdZ p = 1 then nbZ p.wild p.h3 else 0, pick := if kdZ p = 1 then nbZ p.wild p.h4 else 0
    tiers := [], roll := if kdZ p = 1 then p.roll else false, places := []
    cls := if kdZ p = 2 then nbZ p.wild p.h3 else 0, size := if kdZ p = 3 then nbZ p.wild p.h3 else 0, quotas := [], barred := [] }
def moreL (p : Plan13) (d : Dr) (x : Int × Int × Int) : Dr :=
  if d.kind = 1 then { d with tiers := d.tiers ++ [(nbZ p.wild x.2.1, nbZ p.wild x.2.2)] }
  else if d.kind = 2 then { d with places := d.places ++ [(nmZ p.wild x.1, nbZ p.wild x.2.1)] }
  else { d with quotas := d.quotas ++ [(nmZ p.wild x.1, nbZ p.wild x.2.1, nbZ p.wild x.2.2)] }
def moreB (p : Plan13) (d : Dr) (n : Int) : Dr := { d with barred := d.barred ++ [nbZ p.wild n] }
def takeP (p : Plan13) (d more : Dr) : Dr := if (p.wild || rightZ more) = true then more else d
def linesZ (p : Plan13) (k : Nat) : Dr := (p.lines.take k).foldl (fun d x => takeP p d (moreL p d x)) (baseD p)
def barsZ (p : Plan13) (d : Dr) (k : Nat) : Dr := (p.barred.take k).foldl (fun d n => takeP p d (moreB p d n)) d
/-- What Make gives. -/
def makeZ (p : Plan13) : Dr := barsZ p (linesZ p (min p.lines.length 14)) (min p.barred.length 45)
theorem lines_next (p : Plan13) {k : Nat} (h : k < p.lines.length) : linesZ p (k + 1) = takeP p (linesZ p k) (moreL p (linesZ p k) p.lines[k]) := by
  unfold linesZ
  rw [take_snoc h, List.foldl_append]; rfl
theorem bars_next (p : Plan13) (d : Dr) {k : Nat} (h : k < p.barred.length) : barsZ p d (k + 1) = takeP p (barsZ p d k) (moreB p (barsZ p d k) p.barred[k]) := by
  unfold barsZ
  rw [take_snoc h, List.foldl_append]; rfl
/-- What is made so far: n special lines, m barred numbers at most. -/
structure MkOk (p : Plan13) (n m : Nat) (d : Dr) : Prop where
  kind : d.kind = 1 ∨ d.kind = 2 ∨ d.kind = 3
  name : d.name.size ≤ 21
  nums : Dr64 d
  len : d.tiers.length + d.places.length + d.quotas.length ≤ n
  bar : d.barred.length ≤ m
  places : ∀ x ∈ d.places, x.1.size ≤ 21
  quotas : ∀ x ∈ d.quotas, x.1.size ≤ 21
  right : p.wild = false → rightZ d = true
theorem dec64_len {z : Int} (h : R64 z) : (decW z).data.toList.length ≤ 21 := by rw [ba_len]; exact dec64_size h
theorem MkOk.short {p : Plan13} {n m : Nat} {d : Dr} (h : MkOk p n m d) : Short 1000 21 d := by
  have hn := h.nums
  refine ⟨by rw [ba_len]; have := h.name; omega, dec64_len hn.round, dec64_len hn.price, dec64_len hn.pool, dec64_len hn.pick, dec64_len hn.cls, dec64_len hn.size,
    fun x hx => ⟨dec64_len (hn.tiers x hx).1, dec64_len (hn.tiers x hx).2⟩, fun x hx => ⟨by rw [ba_len]; have := h.places x hx; omega, dec64_len (hn.places x hx)⟩,
    fun x hx => ⟨by rw [ba_len]; have := h.quotas x hx; omega, dec64_len (hn.quotas x hx).1, dec64_len (hn.quotas x hx).2⟩, fun x hx => dec64_len (hn.barred x hx)⟩
theorem R64_zero : R64 0 := by unfold R64; omega
theorem base_ok (p : Plan13) (hp : Pl64 p) : MkOk p 0 0 (baseD p) := by
  have h1 := nb_R64 p.wild _ hp.h1
  have h2 := nb_R64 p.wild _ hp.h2
  have h3 := nb_R64 p.wild _ hp.h3
  have h4 := nb_R64 p.wild _ hp.h4
  have hi : ∀ (c : Prop) [Decidable c] (z : Int), R64 z → R64 (if c then z else 0) := fun c _ z hz => by split; exact hz; exact R64_zero
  refine ⟨kd_123 p, nm_len _ _, ⟨h1, h2, hi _ _ h3, hi _ _ h4, hi _ _ h3, hi _ _ h3, ?_, ?_, ?_, ?_⟩, Nat.le_refl _, Nat.le_refl _, ?_, ?_, ?_⟩
  · intro x hx; cases hx
  · intro x hx; cases hx
  · intro x hx; cases hx
  · intro x hx; cases hx
  · intro x hx; cases hx
  · intro x hx; cases hx
  · intro hw
    rw [right_iff]
    have hg : ∀ (c : Prop) [Decidable c] (z : Int), rgB z = true → rgB (if c then z else 0) = true := fun c _ z hz => by split; exact hz; decide
    have n1 : ∀ z, rgB (nbZ p.wild z) = true := fun z => by rw [hw]; exact nb_ok z
    refine ⟨?_, by show nameB (nmZ p.wild p.h0) = true; rw [hw]; exact nm_ok _, n1 _, n1 _, hg _ _ (n1 _), hg _ _ (n1 _), hg _ _ (n1 _), hg _ _ (n1 _), Nat.zero_le _, Nat.zero_le _, Nat.zero_le _, Nat.zero_le _, ?_, ?_, ?_, ?_, ?_⟩
    · rcases kd_123 p with hk | hk | hk
      · rw [owns_1 (by exact hk)]
        refine ⟨?_, rfl, ?_, rfl⟩
        · show (if kdZ p = 2 then _ else (0 : Int)) = 0; rw [if_neg (by rw [hk]; decide)]
        · show (if kdZ p = 3 then _ else (0 : Int)) = 0; rw [if_neg (by rw [hk]; decide)]
      · rw [owns_2 (by exact hk)]
        refine ⟨?_, ?_, rfl, ?_, ?_, rfl⟩
        · show (if kdZ p = 1 then _ else (0 : Int)) = 0; rw [if_neg (by rw [hk]; decide)]
        · show (if kdZ p = 1 then _ else (0 : Int)) = 0; rw [if_neg (by rw [hk]; decide)]
        · show (if kdZ p = 1 then _ else false) = false; rw [if_neg (by rw [hk]; decide)]
        · show (if kdZ p = 3 then _ else (0 : Int)) = 0; rw [if_neg (by rw [hk]; decide)]
      · rw [owns_3 (by exact hk)]
        refine ⟨?_, ?_, rfl, ?_, ?_, rfl⟩
        · show (if kdZ p = 1 then _ else (0 : Int)) = 0; rw [if_neg (by rw [hk]; decide)]
        · show (if kdZ p = 1 then _ else (0 : Int)) = 0; rw [if_neg (by rw [hk]; decide)]
        · show (if kdZ p = 1 then _ else false) = false; rw [if_neg (by rw [hk]; decide)]
        · show (if kdZ p = 2 then _ else (0 : Int)) = 0; rw [if_neg (by rw [hk]; decide)]
    · intro i hi; exact absurd hi (Nat.not_lt_zero _)
    · intro i hi; exact absurd hi (Nat.not_lt_zero _)
    · intro i hi; exact absurd hi (Nat.not_lt_zero _)
    · intro i hi; exact absurd hi (Nat.not_lt_zero _)
    · intro x hx; cases hx
/-- What is tried next, without its being right. -/
structure MkTry (n m : Nat) (d : Dr) : Prop where
  kind : d.kind = 1 ∨ d.kind = 2 ∨ d.kind = 3
  name : d.name.size ≤ 21
  nums : Dr64 d
  len : d.tiers.length + d.places.length + d.quotas.length ≤ n
  bar : d.barred.length ≤ m
  places : ∀ x ∈ d.places, x.1.size ≤ 21
  quotas : ∀ x ∈ d.quotas, x.1.size ≤ 21
theorem MkOk.try' {p : Plan13} {n m : Nat} {d : Dr} (h : MkOk p n m d) : MkTry n m d := ⟨h.kind, h.name, h.nums, h.len, h.bar, h.places, h.quotas⟩
theorem MkTry.ok {p : Plan13} {n m : Nat} {d : Dr} (h : MkTry n m d) (hr : p.wild = false → rightZ d = true) : MkOk p n m d := ⟨h.kind, h.name, h.nums, h.len, h.bar, h.places, h.quotas, hr⟩
theorem MkTry.short {n m : Nat} {d : Dr} (h : MkTry n m d) : Short 1000 21 d :=
  (MkTry.ok (p := ⟨0, 0, 0, 0, 0, 0, 0, [], false, [], true⟩) h (fun h => by cases h)).short
theorem mem_snoc {α : Type} {P : α → Prop} {l : List α} {y : α} (h : ∀ x ∈ l, P x) (hy : P y) : ∀ x ∈ l ++ [y], P x := by
  intro x hx
  rcases List.mem_append.1 hx with hx | hx
  · exact h x hx
  · rw [List.mem_singleton.1 hx]; exact hy
theorem moreL_try {p : Plan13} {n m : Nat} {d : Dr} (h : MkTry n m d) (x : Int × Int × Int) (hx : R64 x.2.1 ∧ R64 x.2.2) : MkTry (n + 1) m (moreL p d x) := by
  have hn := h.nums
  have hl := h.len
  have r1 := nb_R64 p.wild _ hx.1
  have r2 := nb_R64 p.wild _ hx.2
  unfold moreL
  split
  · exact ⟨h.kind, h.name, ⟨hn.round, hn.price, hn.pool, hn.pick, hn.cls, hn.size, mem_snoc hn.tiers ⟨r1, r2⟩, hn.places, hn.quotas, hn.barred⟩, by simp only [List.length_append, List.length_cons, List.length_nil]; omega, h.bar, h.places, h.quotas⟩
  · split
    · exact ⟨h.kind, h.name, ⟨hn.round, hn.price, hn.pool, hn.pick, hn.cls, hn.size, hn.tiers, mem_snoc hn.places r1, hn.quotas, hn.barred⟩, by simp only [List.length_append, List.length_cons, List.length_nil]; omega, h.bar, mem_snoc h.places (nm_len _ _), h.quotas⟩
    · exact ⟨h.kind, h.name, ⟨hn.round, hn.price, hn.pool, hn.pick, hn.cls, hn.size, hn.tiers, hn.places, mem_snoc hn.quotas ⟨r1, r2⟩, hn.barred⟩, by simp only [List.length_append, List.length_cons, List.length_nil]; omega, h.bar, h.places, mem_snoc h.quotas (nm_len _ _)⟩
theorem moreB_try {p : Plan13} {n m : Nat} {d : Dr} (h : MkTry n m d) (z : Int) (hz : R64 z) : MkTry n (m + 1) (moreB p d z) := by
  have hn := h.nums
  exact ⟨h.kind, h.name, ⟨hn.round, hn.price, hn.pool, hn.pick, hn.cls, hn.size, hn.tiers, hn.places, hn.quotas, mem_snoc hn.barred (nb_R64 p.wild _ hz)⟩, h.len, by unfold moreB; simp only [List.length_append, List.length_cons, List.length_nil]; have := h.bar; omega, h.places, h.quotas⟩
theorem MkTry.le {n m n' m' : Nat} {d : Dr} (h : MkTry n m d) (hn : n ≤ n') (hm : m ≤ m') : MkTry n' m' d := ⟨h.kind, h.name, h.nums, Nat.le_trans h.len hn, Nat.le_trans h.bar hm, h.places, h.quotas⟩
theorem takeP_ok {p : Plan13} {n m n' m' : Nat} {d more : Dr} (h : MkOk p n m d) (hm : MkTry n' m' more) (h1 : n ≤ n') (h2 : m ≤ m') : MkOk p n' m' (takeP p d more) := by
  unfold takeP
  split
  · next hw => exact hm.ok (fun h0 => by rw [h0] at hw; exact hw)
  · exact (h.try'.le h1 h2).ok h.right
theorem lines_ok (p : Plan13) (hp : Pl64 p) : ∀ k, k ≤ p.lines.length → MkOk p k 0 (linesZ p k)
  | 0, _ => by unfold linesZ; exact base_ok p hp
  | k + 1, h => by
    have ih := lines_ok p hp k (by omega)
    rw [lines_next p (by omega)]
    exact takeP_ok ih (moreL_try ih.try' _ (hp.lines _ (List.getElem_mem _))) (by omega) (by omega)
theorem bars_ok (p : Plan13) (hp : Pl64 p) {n : Nat} {d : Dr} (hd : MkOk p n 0 d) : ∀ k, k ≤ p.barred.length → MkOk p n k (barsZ p d k)
  | 0, _ => by unfold barsZ; exact hd
  | k + 1, h => by
    have ih := bars_ok p hp hd k (by omega)
    rw [bars_next p d (by omega)]
    exact takeP_ok ih (moreB_try ih.try' _ (hp.barred _ (List.getElem_mem _))) (by omega) (by omega)
theorem make_ok (p : Plan13) (hp : Pl64 p) : MkOk p 14 45 (makeZ p) := by
  unfold makeZ
  have h1 := lines_ok p hp (min p.lines.length 14) (by omega)
  have h2 := bars_ok p hp h1 (min p.barred.length 45) (by omega)
  exact (h2.try'.le (by omega) (by omega)).ok h2.right
end Go.Proofs.YteikkpiginfbkaaGreatDoor

namespace Go.Proofs.YteikkpiginfbkaaGreatDoor
open Go.RowKit

/-- An entrant, and its cells. -/
structure En where
  id : Int
  cls : Int
  fam : Int
  picks : List Int
  wishes : List ByteArray
  groups : List ByteArray
def enCells (e : En) (vp vw vg : Value) : Array Value := #[.int .i64 e.id, .int .i64 e.cls, .int .i64 e.fam, vp, vw, vg]
def nrow (l : List ByteArray) : List Value := l.map .string
structure EnOwn (base : Nat) (W : World) (e : En) (vp vw vg : Value) : Prop where
  picks : W.ownsRow base 3 1 vp e.picks.length (irow e.picks)
  wishes : W.ownsRow base 9 1 vw e.wishes.length (nrow e.wishes)
  groups : W.ownsRow base 9 1 vg e.groups.length (nrow e.groups)
theorem EnOwn.only {base : Nat} {w w' : World} {e : En} {vp vw vg : Value} (h : EnOwn base w e vp vw vg) (hO : Only (fun _ => False) w w') : EnOwn base w' e vp vw vg :=
  ⟨hO.owns h.picks (fun _ _ h => h), hO.owns h.wishes (fun _ _ h => h), hO.owns h.groups (fun _ _ h => h)⟩
theorem EnOwn.base {base base' : Nat} {w : World} {e : En} {vp vw vg : Value} (h : EnOwn base w e vp vw vg) (hb : base' ≤ base) : EnOwn base' w e vp vw vg := ⟨ownR_base h.picks hb, ownR_base h.wishes hb, ownR_base h.groups hb⟩
theorem Tryz.infoEn : (Tryz.prog.info? 44).map (·.size) = some 6 := by kernel_rfl
def naAt (l : List ByteArray) (j : Nat) : ByteArray := l.getD j ByteArray.empty
theorem nrow_cell {w : World} {base : Nat} {a : Option Addr} {c k : Nat} {l : List ByteArray} (h : w.ownsRow base 9 1 (.slice a l.length c) l.length (nrow l)) (hk : k < l.length) :
    ∃ g, a = some ⟨g, 0, none⟩ ∧ g < w.heap.size ∧ l.length ≤ c ∧ c ≤ 9223372036854775807 ∧ w.cell? ⟨g, k, none⟩ = some (.string (naAt l k)) := by
  rcases h.2 with ⟨hv, h0⟩ | ⟨g, cap, cur, hv, hb, hg, hnc, hcm, hcs, htake⟩
  · omega
  · simp only [Value.slice.injEq, true_and] at hv
    obtain ⟨rfl, rfl⟩ := hv
    refine ⟨g, rfl, (Array.getElem?_eq_some_iff.1 hg).1, hnc, hcm, ?_⟩
    rw [cell_of_row w g k cur _ _ hg]
    have h1 : (cur.toList.take (l.length * 1))[k]? = (nrow l)[k]? := by rw [htake]
    rw [List.getElem?_take, if_pos (by omega)] at h1
    rw [Array.getElem?_toList] at h1
    rw [h1]
    unfold nrow naAt
    rw [List.getElem?_map, List.getElem?_eq_getElem hk]
    simp [List.getD, hk]
theorem na_take {l : List ByteArray} {k : Nat} (hk : k < l.length) : l.take (k + 1) = l.take k ++ [naAt l k] := by
  rw [take_snoc hk]; unfold naAt; simp [List.getD, hk]
set_option maxRecDepth 100000 in
set_option maxHeartbeats 4000000 in
theorem rstrings_any (b1 b2 : Nat) (a1 a2 : Option Addr) (c1 c2 : Nat) (xs ys : List ByteArray) (bb : Bool) (w : World) (h1 : w.ownsRow b1 9 1 (.slice a1 xs.length c1) xs.length (nrow xs)) (h2 : w.ownsRow b2 9 1 (.slice a2 ys.length c2) ys.length (nrow ys)) (hb : bb = true ↔ xs = ys) :
    Calls Tryz.prog 41 #[.slice a1 xs.length c1, .slice a2 ys.length c2] w fun e w' => e = .returned (.bool bb) ∧ Only (fun _ => False) w w' := by
  have H1 := Lib.hid h1
  have H2 := Lib.hid h2
  have HB := Lib.hid hb
  clear h1 h2 hb
  go_enter Tryz.func41, Tryz.ntmps41
  by_cases hl : xs.length = ys.length
  · have HLN := Lib.hid hl
    have q1 : ((xs.length : Int) != ys.length) = false := by rw [hl]; simp
    clear hl
    go_wp2_with fail
    go_loopw [5] (fun iv wr => ∃ k : Nat, iv = .int .i64 k ∧ k ≤ xs.length ∧ xs.take k = ys.take k ∧ Only (fun _ => False) w wr) (fun iv _ => xs.length - (intOf iv).toNat)
    case atStart => exact ⟨0, rfl, Nat.zero_le _, rfl, Only.refl _ _⟩
    case round =>
      obtain ⟨k, rfl, hk, htk, hO⟩ := hrel
      have HTK := Lib.hid htk
      have HO := Lib.hid hO
      have HA := Lib.hid (hO.owns H1.out (fun _ _ h => h))
      have HC := Lib.hid (hO.owns H2.out (fun _ _ h => h))
      clear htk hO
      by_cases hlt : k < xs.length
      · have j1 : (k : Int) < xs.length := by omega
        have j2 : 0 ≤ (k : Int) := by omega
        have hlt2 : k < ys.length := by rw [← HLN.out]; exact hlt
        have j3 : (k : Int) < ys.length := by omega
        have HLT := Lib.hid hlt
        obtain ⟨g1, rfl, hb1, hq1, hq2, d1⟩ := nrow_cell HA.out hlt
        obtain ⟨g2, rfl, hb2, hq3, hq4, d2⟩ := nrow_cell HC.out hlt2
        have HNX := Lib.hid (fun (he : naAt xs k = naAt ys k) => show xs.take (k + 1) = ys.take (k + 1) by rw [na_take hlt, na_take hlt2, HTK.out, he])
        have HNE := Lib.hid (fun (he : naAt xs k ≠ naAt ys k) => show bb = false by
          cases hbb : bb with
          | false => rfl
          | true => exact absurd (by rw [HB.out.1 hbb]) he)
        generalize naAt xs k = y at *
        generalize naAt ys k = z at *
        by_cases m : y = z
        · subst m
          have p : (y.toList == y.toList) = true := by simp
          have HG := Lib.hid (HNX.out rfl)
          go_wp2_with fail
          go_quiet (fail)
          go_wp2_with fail
          go_roundw
          case rel => exact ⟨k + 1, by go_num, HLT.out, HG.out, HO.out.drewN _⟩
          case measure => simp [intOf]; have := HLT.out; omega
        · obtain rfl := HNE.out m
          have p : (y.toList == z.toList) = false := by
            rw [beq_eq_false_iff_ne]
            intro e
            rw [ByteArray.toList_eq, ByteArray.toList_eq] at e
            exact m (ba_ext e)
          clear m
          go_wp2_with fail
          go_quiet (fail)
          go_wp2_with fail
          go_ret
          exact ⟨rfl, HO.out.drewN _⟩
      · obtain rfl : k = xs.length := by omega
        have j1 : ¬ (xs.length : Int) < xs.length := by omega
        obtain rfl : bb = true := HB.out.2 (by
          have := HTK.out
          rw [List.take_length] at this
          rw [this, HLN.out, List.take_length])
        go_wp2_with fail
        go_ret
        exact ⟨rfl, HO.out⟩
  · have q1 : ((xs.length : Int) != ys.length) = true := by
      rw [bne_iff_ne]
      omega
    obtain rfl : bb = false := by
      cases hbb : bb with
      | false => rfl
      | true => exact absurd (congrArg List.length (HB.out.1 hbb)) hl
    go_wp2_with fail
    go_ret
    exact ⟨rfl, Only.refl _ _⟩
set_option maxRecDepth 100000 in
set_option maxHeartbeats 4000000 in
theorem rsame_any (a : En) (vp vw vg up uw ug : Value) (b1 b2 : Nat) (w : World) (h1 : EnOwn b1 w a vp vw vg) (h2 : EnOwn b2 w a up uw ug) (hl : a.picks.length ≤ 1000000) :
    Calls Tryz.prog 18 #[.agg (enCells a vp vw vg), .agg (enCells a up uw ug)] w fun e w' => e = .returned (.bool true) ∧ Only (fun _ => False) w w' := by
  obtain ⟨ap1, cp, rfl⟩ := slice_of_own h1.picks
  obtain ⟨aw1, cw, rfl⟩ := slice_of_own h1.wishes
  obtain ⟨ag1, cg, rfl⟩ := slice_of_own h1.groups
  obtain ⟨bp1, dp, rfl⟩ := slice_of_own h2.picks
  obtain ⟨bw1, dw, rfl⟩ := slice_of_own h2.wishes
  obtain ⟨bg1, dg, rfl⟩ := slice_of_own h2.groups
  have H1 := Lib.hid h1
  have H2 := Lib.hid h2
  have HL := Lib.hid hl
  have HZA := Lib.hid (heap_alloc_last w (.cells (enCells a (.slice ap1 a.picks.length cp) (.slice aw1 a.wishes.length cw) (.slice ag1 a.groups.length cg)) 44))
  have HOA := Lib.hid ((Only.refl (fun _ => False) w).alloc (.cells (enCells a (.slice ap1 a.picks.length cp) (.slice aw1 a.wishes.length cw) (.slice ag1 a.groups.length cg)) 44))
  clear h1 h2 hl
  go_enter Tryz.func18, Tryz.ntmps18
  go_upto_region 1 with (fail)
  have HZB := Lib.hid (heap_alloc_last (w.alloc (.cells (enCells a (.slice ap1 a.picks.length cp) (.slice aw1 a.wishes.length cw) (.slice ag1 a.groups.length cg)) 44)) (.cells (enCells a (.slice bp1 a.picks.length dp) (.slice bw1 a.wishes.length dw) (.slice bg1 a.groups.length dg)) 44))
  have HOB := Lib.hid ((Only.refl (fun _ => False) (w.alloc (.cells (enCells a (.slice ap1 a.picks.length cp) (.slice aw1 a.wishes.length cw) (.slice ag1 a.groups.length cg)) 44))).alloc (.cells (enCells a (.slice bp1 a.picks.length dp) (.slice bw1 a.wishes.length dw) (.slice bg1 a.groups.length dg)) 44))
  have HZA := Lib.hid (row_still HOB.out HZA.out)
  have HO := Lib.hid (HOA.out.trans HOB.out)
  rw [World.size_alloc] at HZB
  clear HOA HOB
  generalize World.alloc (World.alloc w _) _ = w1 at *
  have HE1 := Lib.hid (H1.out.only HO.out)
  have HE2 := Lib.hid (H2.out.only HO.out)
  have hlt0 : w.heap.size < w1.heap.size := (Array.getElem?_eq_some_iff.1 HZA.out).1
  have hlt1 : w.heap.size + 1 < w1.heap.size := (Array.getElem?_eq_some_iff.1 HZB.out).1
  have c3 : w1.cell? ⟨w.heap.size, 3, none⟩ = some (.slice ap1 a.picks.length cp) := cell_of_row _ _ 3 _ _ _ HZA.out
  have e3 : w1.cell? ⟨w.heap.size + 1, 3, none⟩ = some (.slice bp1 a.picks.length dp) := cell_of_row _ _ 3 _ _ _ HZB.out
  go_wp2_with fail
  refine (rints13_any ap1 bp1 cp dp a.picks a.picks true w1 (ptsR_of_own HE1.out.picks) (ptsR_of_own HE2.out.picks) (by simp) HL.out).mono ?_
  rintro e w2 ⟨rfl, hO2⟩
  have HZA2 := Lib.hid (row_still hO2 HZA.out)
  have HZB2 := Lib.hid (row_still hO2 HZB.out)
  have HE1b := Lib.hid (HE1.out.only hO2)
  have HE2b := Lib.hid (HE2.out.only hO2)
  have HO2 := Lib.hid (HO.out.trans hO2)
  have c4 : w2.cell? ⟨w.heap.size, 4, none⟩ = some (.slice aw1 a.wishes.length cw) := cell_of_row _ _ 4 _ _ _ HZA2.out
  have e4 : w2.cell? ⟨w.heap.size + 1, 4, none⟩ = some (.slice bw1 a.wishes.length dw) := cell_of_row _ _ 4 _ _ _ HZB2.out
  clear hO2 c3 e3
  go_wp2_with fail
  refine (rstrings_any b1 b2 aw1 bw1 cw dw a.wishes a.wishes true w2 HE1b.out.wishes HE2b.out.wishes (by simp)).mono ?_
  rintro e w3 ⟨rfl, hO3⟩
  have HZA3 := Lib.hid (row_still hO3 HZA2.out)
  have HZB3 := Lib.hid (row_still hO3 HZB2.out)
  have HE1c := Lib.hid (HE1b.out.only hO3)
  have HE2c := Lib.hid (HE2b.out.only hO3)
  have HO3 := Lib.hid (HO2.out.trans hO3)
  have c5 : w3.cell? ⟨w.heap.size, 5, none⟩ = some (.slice ag1 a.groups.length cg) := cell_of_row _ _ 5 _ _ _ HZA3.out
  have e5 : w3.cell? ⟨w.heap.size + 1, 5, none⟩ = some (.slice bg1 a.groups.length dg) := cell_of_row _ _ 5 _ _ _ HZB3.out
  clear hO3 c4 e4
  go_wp2_with fail
  refine (rstrings_any b1 b2 ag1 bg1 cg dg a.groups a.groups true w3 HE1c.out.groups HE2c.out.groups (by simp)).mono ?_
  rintro e w4 ⟨rfl, hO4⟩
  have HZA4 := Lib.hid (row_still hO4 HZA3.out)
  have HZB4 := Lib.hid (row_still hO4 HZB3.out)
  have HO4 := Lib.hid (HO3.out.trans hO4)
  have c0 : w4.cell? ⟨w.heap.size, 0, none⟩ = some (.int .i64 a.id) := cell_of_row _ _ 0 _ _ _ HZA4.out
  have c1 : w4.cell? ⟨w.heap.size, 1, none⟩ = some (.int .i64 a.cls) := cell_of_row _ _ 1 _ _ _ HZA4.out
  have c2 : w4.cell? ⟨w.heap.size, 2, none⟩ = some (.int .i64 a.fam) := cell_of_row _ _ 2 _ _ _ HZA4.out
  have e0 : w4.cell? ⟨w.heap.size + 1, 0, none⟩ = some (.int .i64 a.id) := cell_of_row _ _ 0 _ _ _ HZB4.out
  have e1 : w4.cell? ⟨w.heap.size + 1, 1, none⟩ = some (.int .i64 a.cls) := cell_of_row _ _ 1 _ _ _ HZB4.out
  have e2 : w4.cell? ⟨w.heap.size + 1, 2, none⟩ = some (.int .i64 a.fam) := cell_of_row _ _ 2 _ _ _ HZB4.out
  have q0 : (a.id == a.id) = true := by simp
  have q1 : (a.cls == a.cls) = true := by simp
  have q2 : (a.fam == a.fam) = true := by simp
  clear hO4 c5 e5
  go_wp2_with fail
  go_ret
  exact ⟨rfl, HO4.out⟩
end Go.Proofs.YteikkpiginfbkaaGreatDoor

namespace Go.Proofs.YteikkpiginfbkaaGreatDoor
open Go.RowKit

def rightE (e : En) : Bool := [e.id, e.cls, e.fam].all rgB && e.picks.all rgB && decide (e.picks.length ≤ 60 ∧ e.wishes.length ≤ 12 ∧ e.groups.length ≤ 12) && (e.wishes.all nameB && e.groups.all nameB)
def lkE (e : En) (k : Nat) : List ByteArray := if k = 0 then e.wishes else e.groups
theorem lk_own {base : Nat} {w : World} {e : En} {vp : Value} {aw ag : Option Addr} {cw cg k B : Nat} (h : EnOwn base w e vp (.slice aw e.wishes.length cw) (.slice ag e.groups.length cg))
    (hB : w.heap[B]? = some (.cells #[.slice aw e.wishes.length cw, .slice ag e.groups.length cg] 42 (0, 0))) (hk : k < 2) :
    ∃ a c, w.cell? ⟨B, k, none⟩ = some (.slice a (lkE e k).length c) ∧ w.ownsRow base 9 1 (.slice a (lkE e k).length c) (lkE e k).length (nrow (lkE e k)) := by
  rcases (show k = 0 ∨ k = 1 by omega) with rfl | rfl
  · exact ⟨aw, cw, cell_of_row _ _ 0 _ _ _ hB, h.wishes⟩
  · exact ⟨ag, cg, cell_of_row _ _ 1 _ _ _ hB, h.groups⟩
theorem rightE_no {e : En} {k : Nat} (h : (lkE e k).all nameB = false) : rightE e = false := by
  unfold lkE at h
  unfold rightE
  split at h <;> rw [h] <;> simp
theorem rightE_yes {e : En} (h1 : [e.id, e.cls, e.fam].all rgB = true) (h2 : e.picks.all rgB = true) (h3 : e.picks.length ≤ 60 ∧ e.wishes.length ≤ 12 ∧ e.groups.length ≤ 12) (h4 : ∀ j, j < 2 → (lkE e j).all nameB = true) : rightE e = true := by
  have a := h4 0 (by decide)
  have b := h4 1 (by decide)
  unfold lkE at a b
  rw [if_pos rfl] at a
  rw [if_neg (by decide)] at b
  unfold rightE
  rw [h1, h2, a, b, decide_eq_true h3]; rfl
theorem lk_len {e : En} {k : Nat} (h3 : e.picks.length ≤ 60 ∧ e.wishes.length ≤ 12 ∧ e.groups.length ≤ 12) : (lkE e k).length ≤ 12 := by
  unfold lkE; split <;> omega
theorem all_snoc {l : List ByteArray} {j : Nat} (h : j < l.length) (h1 : (l.take j).all nameB = true) (h2 : nameB (naAt l j) = true) : (l.take (j + 1)).all nameB = true := by
  rw [na_take h, List.all_append, h1, List.all_cons, h2]; rfl
theorem all_not {l : List ByteArray} {j : Nat} (h : j < l.length) (h2 : nameB (naAt l j) = false) : l.all nameB = false := by
  rw [Bool.eq_false_iff]
  intro hh
  have := List.all_eq_true.1 hh (naAt l j) (by unfold naAt; simp [List.getD, h])
  rw [h2] at this; cases this
set_option maxRecDepth 100000 in
set_option maxHeartbeats 4000000 in
theorem rightent_any (e : En) (vp vw vg : Value) (bb : Bool) (base : Nat) (w : World) (h : EnOwn base w e vp vw vg) (hb : rightE e = bb) (hl : e.picks.length ≤ 1000000 ∧ e.wishes.length ≤ 1000000 ∧ e.groups.length ≤ 1000000) :
    Calls Tryz.prog 39 #[.agg (enCells e vp vw vg)] w fun r w' => r = .returned (.bool bb) ∧ Only (fun _ => False) w w' := by
  obtain ⟨ap1, cp, rfl⟩ := slice_of_own h.picks
  obtain ⟨aw1, cw, rfl⟩ := slice_of_own h.wishes
  obtain ⟨ag1, cg, rfl⟩ := slice_of_own h.groups
  have H := Lib.hid h
  have HB := Lib.hid hb
  have HL := Lib.hid hl
  have HZ := Lib.hid (heap_alloc_last w (.cells (enCells e (.slice ap1 e.picks.length cp) (.slice aw1 e.wishes.length cw) (.slice ag1 e.groups.length cg)) 44))
  have HO := Lib.hid ((Only.refl (fun _ => False) w).alloc (.cells (enCells e (.slice ap1 e.picks.length cp) (.slice aw1 e.wishes.length cw) (.slice ag1 e.groups.length cg)) 44))
  have HLE := Lib.hid (fun k => rightE_no (e := e) (k := k))
  have HYE := Lib.hid (rightE_yes (e := e))
  clear h hb hl
  go_enter Tryz.func39, Tryz.ntmps39
  go_upto_region 1 with (fail)
  generalize World.alloc w _ = w1 at *
  have HE1 := Lib.hid (H.out.only HO.out)
  have hlt0 : w.heap.size < w1.heap.size := (Array.getElem?_eq_some_iff.1 HZ.out).1
  have c0 : w1.cell? ⟨w.heap.size, 0, none⟩ = some (.int .i64 e.id) := cell_of_row _ _ 0 _ _ _ HZ.out
  have c1 : w1.cell? ⟨w.heap.size, 1, none⟩ = some (.int .i64 e.cls) := cell_of_row _ _ 1 _ _ _ HZ.out
  have c2 : w1.cell? ⟨w.heap.size, 2, none⟩ = some (.int .i64 e.fam) := cell_of_row _ _ 2 _ _ _ HZ.out
  have c3 : w1.cell? ⟨w.heap.size, 3, none⟩ = some (.slice ap1 e.picks.length cp) := cell_of_row _ _ 3 _ _ _ HZ.out
  go_wp2_with fail
  have HO2 := Lib.hid (HO.out.alloc (.cells #[.int .i64 e.id, .int .i64 e.cls, .int .i64 e.fam] 3))
  have HZ2 := Lib.hid (row_still ((Only.refl (fun _ => False) w1).alloc (.cells #[.int .i64 e.id, .int .i64 e.cls, .int .i64 e.fam] 3)) HZ.out)
  have HE2 := Lib.hid (HE1.out.only ((Only.refl (fun _ => False) w1).alloc (.cells #[.int .i64 e.id, .int .i64 e.cls, .int .i64 e.fam] 3)))
  obtain ⟨b1, hb1⟩ : ∃ b, [e.id, e.cls, e.fam].all rgB = b := ⟨_, rfl⟩
  refine (range_any (some ⟨w1.heap.size, 0, none⟩) 3 [e.id, e.cls, e.fam] b1 (w1.alloc (.cells #[.int .i64 e.id, .int .i64 e.cls, .int .i64 e.fam] 3)) (by exact pts_new w1 [e.id, e.cls, e.fam] (by simp) (by simp)) hb1 (by simp)).mono ?_
  rintro e' w2 ⟨rfl, rfl⟩
  have HB1 := Lib.hid hb1
  clear hb1 c0 c1 c2 c3
  generalize (w1.alloc (.cells #[.int .i64 e.id, .int .i64 e.cls, .int .i64 e.fam] 3)) = w2 at *
  have hlt2 : w.heap.size < w2.heap.size := (Array.getElem?_eq_some_iff.1 HZ2.out).1
  have c3 : w2.cell? ⟨w.heap.size, 3, none⟩ = some (.slice ap1 e.picks.length cp) := cell_of_row _ _ 3 _ _ _ HZ2.out
  have c4 : w2.cell? ⟨w.heap.size, 4, none⟩ = some (.slice aw1 e.wishes.length cw) := cell_of_row _ _ 4 _ _ _ HZ2.out
  have c5 : w2.cell? ⟨w.heap.size, 5, none⟩ = some (.slice ag1 e.groups.length cg) := cell_of_row _ _ 5 _ _ _ HZ2.out
  cases b1
  · have HF := Lib.hid (show bb = false by rw [← HB.out]; unfold rightE; rw [HB1.out]; rfl)
    go_wp2_with fail
    go_ret
    exact ⟨by rw [HF.out]; rfl, HO2.out⟩
  obtain ⟨b2, hb2⟩ : ∃ b, e.picks.all rgB = b := ⟨_, rfl⟩
  have HB2 := Lib.hid hb2
  have HC := Lib.hid (range_any ap1 cp e.picks b2 w2 (ptsR_of_own HE2.out.picks) hb2 HL.out.1)
  clear hb2
  go_wp2_with fail
  refine HC.out.mono ?_
  rintro e' w3 ⟨rfl, rfl⟩
  clear HC
  cases b2
  · have HF := Lib.hid (show bb = false by rw [← HB.out]; unfold rightE; rw [HB2.out]; simp)
    go_wp2_with fail
    go_ret
    exact ⟨by rw [HF.out]; rfl, HO2.out⟩
  by_cases hn : e.picks.length ≤ 60 ∧ e.wishes.length ≤ 12 ∧ e.groups.length ≤ 12
  rotate_left
  · have HF := Lib.hid (show bb = false by rw [← HB.out]; unfold rightE; rw [decide_eq_false hn]; simp)
    by_cases h1 : e.picks.length ≤ 60
    · by_cases h2 : e.wishes.length ≤ 12
      · have i1 : ¬ (60 : Int) < e.picks.length := by omega
        have i2 : ¬ (12 : Int) < e.wishes.length := by omega
        have i3 : (12 : Int) < e.groups.length := by omega
        clear hn h1 h2
        go_wp2_with fail
        go_ret
        exact ⟨by rw [HF.out]; rfl, HO2.out⟩
      · have i1 : ¬ (60 : Int) < e.picks.length := by omega
        have i2 : (12 : Int) < e.wishes.length := by omega
        clear hn h1 h2
        go_wp2_with fail
        go_ret
        exact ⟨by rw [HF.out]; rfl, HO2.out⟩
    · have i1 : (60 : Int) < e.picks.length := by omega
      clear hn h1
      go_wp2_with fail
      go_ret
      exact ⟨by rw [HF.out]; rfl, HO2.out⟩
  have HN := Lib.hid hn
  have i1 : ¬ (60 : Int) < e.picks.length := by omega
  have i2 : ¬ (12 : Int) < e.wishes.length := by omega
  have i3 : ¬ (12 : Int) < e.groups.length := by omega
  clear hn
  go_upto_region 5 with (fail)
  clear i1 i2 i3
  go_wp2_with fail
  have HO3 := Lib.hid (HO2.out.alloc (.cells #[.slice aw1 e.wishes.length cw, .slice ag1 e.groups.length cg] 42))
  have HQ := Lib.hid (heap_alloc_last w2 (.cells #[.slice aw1 e.wishes.length cw, .slice ag1 e.groups.length cg] 42))
  have HE3 := Lib.hid (HE2.out.only ((Only.refl (fun _ => False) w2).alloc (.cells #[.slice aw1 e.wishes.length cw, .slice ag1 e.groups.length cg] 42)))
  clear c3 c4 c5
  generalize (w2.alloc (.cells #[.slice aw1 e.wishes.length cw, .slice ag1 e.groups.length cg] 42)) = w3 at *
  generalize w2.heap.size = B at *
  go_loopw [44] (fun iv wr => ∃ k : Nat, iv = .int .i64 k ∧ k ≤ 2 ∧ (∀ j, j < k → (lkE e j).all nameB = true) ∧ Only (fun _ => False) w3 wr) (fun iv _ => 2 - (intOf iv).toNat)
  case atStart => exact ⟨0, rfl, by decide, fun j hj => absurd hj (Nat.not_lt_zero _), Only.refl _ _⟩
  case round =>
    obtain ⟨k, rfl, hk, hall, hO⟩ := hrel
    have HALL := Lib.hid hall
    have HOR := Lib.hid hO
    clear hall hO
    by_cases hlt : k < 2
    · have j1 : (k : Int) < 2 := by omega
      have j2 : 0 ≤ (k : Int) := by omega
      have HQR := Lib.hid (row_still HOR.out HQ.out)
      obtain ⟨a, c, d0, hown⟩ := lk_own (HE3.out.only HOR.out) HQR.out hlt
      have HW := Lib.hid hown
      have HNO := Lib.hid (HLE.out k)
      have HLT := Lib.hid hlt
      have HLL := Lib.hid (lk_len (k := k) HN.out)
      have HNX := Lib.hid (fun (h : (lkE e k).all nameB = true) => show ∀ j, j < k + 1 → (lkE e j).all nameB = true from fun j hj => by
        rcases Nat.lt_or_ge j k with h1 | h1
        · exact HALL.out j h1
        · rw [show j = k by omega]; exact h)
      have hBr : B < wr.heap.size := (Array.getElem?_eq_some_iff.1 HQR.out).1
      clear hown hlt
      generalize lkE e k = l at *
      go_wp2_with fail
      generalize wr = w6 at *
      go_loopw [50] (fun jv wr => ∃ j : Nat, jv = .int .i64 j ∧ j ≤ l.length ∧ (l.take j).all nameB = true ∧ Only (fun _ => False) w6 wr) (fun jv _ => l.length - (intOf jv).toNat)
      case atStart => exact ⟨0, rfl, Nat.zero_le _, rfl, Only.refl _ _⟩
      case round =>
        obtain ⟨j, rfl, hj, hja, hO⟩ := hrel
        have HJA := Lib.hid hja
        have HOI := Lib.hid hO
        have HWI := Lib.hid (hO.owns HW.out (fun _ _ h => h))
        clear hja hO
        by_cases hjl : j < l.length
        · have m1 : (j : Int) < l.length := by omega
          have m2 : 0 ≤ (j : Int) := by omega
          obtain ⟨g, rfl, hg, hq1, hq2, d1⟩ := nrow_cell HWI.out hjl
          have HJS := Lib.hid (all_snoc hjl HJA.out)
          have HJN := Lib.hid (all_not hjl)
          have HJL := Lib.hid hjl
          generalize naAt l j = y at *
          go_wp2_with fail
          obtain ⟨by1, hby⟩ : ∃ b, nameB y = b := ⟨_, rfl⟩
          refine (isname_any y by1 _ hby).mono ?_
          rintro e' w7 ⟨rfl, rfl⟩
          cases by1
          · have HF := Lib.hid (show bb = false by rw [← HB.out]; exact HNO.out (HJN.out hby))
            clear hby
            go_wp2_with fail
            go_ret
            exact ⟨by rw [HF.out]; rfl, ((HO3.out.trans HOR.out).trans HOI.out)⟩
          · have HS := Lib.hid (HJS.out hby)
            clear hby
            go_wp2_with fail
            go_roundw
            case rel => exact ⟨j + 1, by go_num, HJL.out, HS.out, HOI.out⟩
            case measure => simp [intOf]; have := HJL.out; omega
        · obtain rfl : j = l.length := by omega
          have m1 : ¬ (l.length : Int) < l.length := by omega
          have HLA := Lib.hid (show l.all nameB = true by have := HJA.out; rw [List.take_length] at this; exact this)
          clear hjl hj
          go_wp2_with fail
          go_roundw
          case rel => exact ⟨k + 1, by go_num, HLT.out, HNX.out HLA.out, HOR.out.trans HOI.out⟩
          case measure => simp [intOf]; have := HLT.out; omega
    · obtain rfl : k = 2 := by omega
      have HF := Lib.hid (show bb = true by rw [← HB.out]; exact HYE.out HB1.out HB2.out HN.out HALL.out)
      clear hlt hk
      go_wp2_with fail
      go_ret
      exact ⟨by rw [HF.out]; rfl, HO3.out.trans HOR.out⟩
end Go.Proofs.YteikkpiginfbkaaGreatDoor

namespace Go.Proofs.YteikkpiginfbkaaGreatDoor
open Go.RowKit

def kEntrant : ByteArray := ⟨#[101, 110, 116, 114, 97, 110, 116]⟩
def addN (s : ByteArray) (l : List ByteArray) : ByteArray := l.foldl (fun s w => s ++ (⟨#[32]⟩ ++ w)) s
theorem addN_snoc (s : ByteArray) (l : List ByteArray) (w : ByteArray) : addN s (l ++ [w]) = addN s l ++ (⟨#[32]⟩ ++ w) := by unfold addN; rw [List.foldl_append]; rfl
/-- The names of a list, with their number in front, behind a text. -/
def addW (s : ByteArray) (l : List ByteArray) : ByteArray := addN (textU s [l.length]) l
def pe0 (e : En) : ByteArray := textU (textU kEntrant [e.id, e.cls, e.fam, e.picks.length]) e.picks
def peK (e : En) : Nat → ByteArray
  | 0 => pe0 e
  | k + 1 => addW (peK e k) (lkE e k)
def printEZ (e : En) : ByteArray := if rightE e = true then peK e 2 else ByteArray.empty
theorem rg_all {l : List Int} (h : l.all rgB = true) : ∀ n ∈ l, R64 n := fun n hn => rg_R64 (List.all_eq_true.1 h n hn)
theorem rightE_parts {e : En} (h : rightE e = true) : [e.id, e.cls, e.fam].all rgB = true ∧ e.picks.all rgB = true ∧ (e.picks.length ≤ 60 ∧ e.wishes.length ≤ 12 ∧ e.groups.length ≤ 12) ∧ (∀ k, (lkE e k).all nameB = true) := by
  unfold rightE at h
  simp only [Bool.and_eq_true, decide_eq_true_eq] at h
  obtain ⟨⟨⟨h1, h2⟩, h3⟩, h4, h5⟩ := h
  refine ⟨h1, h2, h3, fun k => ?_⟩
  unfold lkE
  split
  · exact h4
  · exact h5
theorem addN_size {s : ByteArray} : ∀ {l : List ByteArray}, (∀ w ∈ l, w.size ≤ 20) → (addN s l).size ≤ s.size + 21 * l.length
  | [], _ => Nat.le_refl _
  | w :: l, h => by
    have h1 := h w List.mem_cons_self
    have h2 := addN_size (s := s ++ (⟨#[32]⟩ ++ w)) (fun x hx => h x (List.mem_cons_of_mem _ hx))
    rw [ByteArray.size_append, ByteArray.size_append] at h2
    have : (⟨#[32]⟩ : ByteArray).size = 1 := rfl
    show (addN (s ++ (⟨#[32]⟩ ++ w)) l).size ≤ _
    rw [List.length_cons]
    omega
theorem name_20 {s : ByteArray} (h : nameB s = true) : s.size ≤ 20 := by
  unfold nameB at h
  simp only [Bool.and_eq_true, decide_eq_true_eq] at h
  exact h.1.2
theorem all_20 {l : List ByteArray} (h : l.all nameB = true) : ∀ w ∈ l, w.size ≤ 20 := fun w hw => name_20 (List.all_eq_true.1 h w hw)
theorem len_R64 {n : Nat} (h : n ≤ 1000) : R64 (n : Int) := by unfold R64; omega
theorem pe0_size {e : En} (h : rightE e = true) : (pe0 e).size ≤ 1500 := by
  obtain ⟨h1, h2, h3, _⟩ := rightE_parts h
  have a := textU_size (word := kEntrant) (ns := [e.id, e.cls, e.fam, (e.picks.length : Int)]) (fun n hn => by
    simp only [List.mem_cons, List.not_mem_nil, or_false] at hn
    rcases hn with rfl | rfl | rfl | rfl
    · exact rg_all h1 _ (by simp)
    · exact rg_all h1 _ (by simp)
    · exact rg_all h1 _ (by simp)
    · exact len_R64 (by omega))
  have b := textU_size (word := textU kEntrant [e.id, e.cls, e.fam, (e.picks.length : Int)]) (rg_all h2)
  have : kEntrant.size = 7 := rfl
  simp only [List.length_cons, List.length_nil] at a
  unfold pe0
  omega
theorem addW_size {e : En} (h : rightE e = true) (k : Nat) (s : ByteArray) : (addW s (lkE e k)).size ≤ s.size + 300 := by
  obtain ⟨_, _, h3, h4⟩ := rightE_parts h
  have hl := lk_len (k := k) h3
  have a := addN_size (s := textU s [((lkE e k).length : Int)]) (all_20 (h4 k))
  have b := textU_size (word := s) (ns := [((lkE e k).length : Int)]) (fun n hn => by rw [List.mem_singleton.1 hn]; exact len_R64 (by omega))
  simp only [List.length_cons, List.length_nil] at b
  unfold addW
  omega
theorem peK_succ (e : En) (k : Nat) : peK e (k + 1) = addW (peK e k) (lkE e k) := by rw [peK]
theorem peK_zero (e : En) : peK e 0 = pe0 e := by rw [peK]
theorem peK_size {e : En} (h : rightE e = true) : ∀ k, (peK e k).size ≤ 1500 + 300 * k
  | 0 => by rw [peK_zero]; have := pe0_size h; omega
  | k + 1 => by
    have h1 := peK_size h k
    have h2 := addW_size h k (peK e k)
    rw [peK_succ]
    exact Nat.le_trans h2 (Nat.le_trans (Nat.add_le_add_right h1 300) (Nat.le_of_eq (by rw [Nat.mul_succ, Nat.add_assoc])))
set_option maxRecDepth 100000 in
set_option maxHeartbeats 4000000 in
theorem printent_any (e : En) (vp vw vg : Value) (base : Nat) (w : World) (h : EnOwn base w e vp vw vg) (hl : e.picks.length ≤ 1000000 ∧ e.wishes.length ≤ 1000000 ∧ e.groups.length ≤ 1000000) (hG : GlobU w) :
    Calls Tryz.prog 16 #[.agg (enCells e vp vw vg)] w fun r w' => r = .returned (.string (printEZ e)) ∧ Only (fun _ => False) w w' := by
  obtain ⟨ap1, cp, rfl⟩ := slice_of_own h.picks
  obtain ⟨aw1, cw, rfl⟩ := slice_of_own h.wishes
  obtain ⟨ag1, cg, rfl⟩ := slice_of_own h.groups
  have H := Lib.hid h
  have HG := Lib.hid hG
  have HL := Lib.hid hl
  have HZ := Lib.hid (heap_alloc_last w (.cells (enCells e (.slice ap1 e.picks.length cp) (.slice aw1 e.wishes.length cw) (.slice ag1 e.groups.length cg)) 44))
  have HO := Lib.hid ((Only.refl (fun _ => False) w).alloc (.cells (enCells e (.slice ap1 e.picks.length cp) (.slice aw1 e.wishes.length cw) (.slice ag1 e.groups.length cg)) 44))
  clear h hl hG
  go_enter Tryz.func16, Tryz.ntmps16
  go_upto_region 1 with (fail)
  generalize World.alloc w _ = w1 at *
  have HE1 := Lib.hid (H.out.only HO.out)
  have hlt0 : w.heap.size < w1.heap.size := (Array.getElem?_eq_some_iff.1 HZ.out).1
  have c0 : w1.cell? ⟨w.heap.size, 0, none⟩ = some (.int .i64 e.id) := cell_of_row _ _ 0 _ _ _ HZ.out
  have c1 : w1.cell? ⟨w.heap.size, 1, none⟩ = some (.int .i64 e.cls) := cell_of_row _ _ 1 _ _ _ HZ.out
  have c2 : w1.cell? ⟨w.heap.size, 2, none⟩ = some (.int .i64 e.fam) := cell_of_row _ _ 2 _ _ _ HZ.out
  have c3 : w1.cell? ⟨w.heap.size, 3, none⟩ = some (.slice ap1 e.picks.length cp) := cell_of_row _ _ 3 _ _ _ HZ.out
  have c4 : w1.cell? ⟨w.heap.size, 4, none⟩ = some (.slice aw1 e.wishes.length cw) := cell_of_row _ _ 4 _ _ _ HZ.out
  have c5 : w1.cell? ⟨w.heap.size, 5, none⟩ = some (.slice ag1 e.groups.length cg) := cell_of_row _ _ 5 _ _ _ HZ.out
  go_wp2_with fail
  obtain ⟨bb, hb⟩ : ∃ b, rightE e = b := ⟨_, rfl⟩
  refine (rightent_any e _ _ _ bb base w1 HE1.out hb HL.out).mono ?_
  rintro e' w2 ⟨rfl, hO2⟩
  have HB := Lib.hid hb
  have HO2 := Lib.hid (HO.out.trans hO2)
  cases bb
  · go_wp2_with fail
    go_ret
    exact ⟨by unfold printEZ; rw [if_neg (by rw [HB.out]; decide)]; rfl, HO2.out⟩
  have HZ2 := Lib.hid (row_still hO2 HZ.out)
  have HE2 := Lib.hid (HE1.out.only hO2)
  have HPE := Lib.hid (show printEZ e = peK e 2 by unfold printEZ; rw [if_pos hb])
  have HPR := Lib.hid (rightE_parts hb)
  have HSZ := Lib.hid (peK_size hb)
  have HS0 := Lib.hid (pe0_size hb)
  clear hb hO2 c0 c1 c2 c3 c4 c5
  have hlt2 : w.heap.size < w2.heap.size := (Array.getElem?_eq_some_iff.1 HZ2.out).1
  have c0 : w2.cell? ⟨w.heap.size, 0, none⟩ = some (.int .i64 e.id) := cell_of_row _ _ 0 _ _ _ HZ2.out
  have c1 : w2.cell? ⟨w.heap.size, 1, none⟩ = some (.int .i64 e.cls) := cell_of_row _ _ 1 _ _ _ HZ2.out
  have c2 : w2.cell? ⟨w.heap.size, 2, none⟩ = some (.int .i64 e.fam) := cell_of_row _ _ 2 _ _ _ HZ2.out
  have c3 : w2.cell? ⟨w.heap.size, 3, none⟩ = some (.slice ap1 e.picks.length cp) := cell_of_row _ _ 3 _ _ _ HZ2.out
  go_wp2_with fail
  have HOa := Lib.hid (HO2.out.alloc (.cells #[.int .i64 e.id, .int .i64 e.cls, .int .i64 e.fam, .int .i64 e.picks.length] 3))
  have HZa := Lib.hid (row_still ((Only.refl (fun _ => False) w2).alloc (.cells #[.int .i64 e.id, .int .i64 e.cls, .int .i64 e.fam, .int .i64 e.picks.length] 3)) HZ2.out)
  have HEa := Lib.hid (HE2.out.only ((Only.refl (fun _ => False) w2).alloc (.cells #[.int .i64 e.id, .int .i64 e.cls, .int .i64 e.fam, .int .i64 e.picks.length] 3)))
  have HR4 := Lib.hid (show ∀ n ∈ [e.id, e.cls, e.fam, (e.picks.length : Int)], R64 n from fun n hn => by
    have h1 := HPR.out.1
    have h3 := HPR.out.2.2.1
    simp only [List.mem_cons, List.not_mem_nil, or_false] at hn
    rcases hn with rfl | rfl | rfl | rfl
    · exact rg_all h1 _ (by simp)
    · exact rg_all h1 _ (by simp)
    · exact rg_all h1 _ (by simp)
    · exact len_R64 (by omega))
  refine (text_any _ (some ⟨w2.heap.size, 0, none⟩) 4 [e.id, e.cls, e.fam, (e.picks.length : Int)] (w2.alloc (.cells #[.int .i64 e.id, .int .i64 e.cls, .int .i64 e.fam, .int .i64 e.picks.length] 3)) (by exact pts_new w2 [e.id, e.cls, e.fam, (e.picks.length : Int)] (by simp) (by simp)) (by simp) (by decide) HR4.out (HG.out.only HOa.out)).mono ?_
  rintro e' w3 ⟨rfl, hO3⟩
  have HO3 := Lib.hid (HOa.out.trans hO3)
  have HZ3 := Lib.hid (row_still hO3 HZa.out)
  have HE3 := Lib.hid (HEa.out.only hO3)
  have HX3 := Lib.hid (textU_size (word := kEntrant) HR4.out)
  have HXE := Lib.hid (show pe0 e = textU (textU kEntrant [e.id, e.cls, e.fam, (e.picks.length : Int)]) e.picks from rfl)
  unfold kEntrant at HX3 HXE
  generalize textU ⟨#[101, 110, 116, 114, 97, 110, 116]⟩ [e.id, e.cls, e.fam, (e.picks.length : Int)] = s1 at *
  clear hO3 c0 c1 c2 c3
  have hlt3 : w.heap.size < w3.heap.size := (Array.getElem?_eq_some_iff.1 HZ3.out).1
  have c3 : w3.cell? ⟨w.heap.size, 3, none⟩ = some (.slice ap1 e.picks.length cp) := cell_of_row _ _ 3 _ _ _ HZ3.out
  go_wp2_with fail
  refine (text_any s1 ap1 cp e.picks w3 (ptsR_of_own HE3.out.picks) (by have := HPR.out.2.2.1; omega) (by have h := HX3.out; simp only [List.length_cons, List.length_nil] at h; have : (⟨#[101, 110, 116, 114, 97, 110, 116]⟩ : ByteArray).size = 7 := rfl; omega) (rg_all HPR.out.2.1) (HG.out.only HO3.out)).mono ?_
  rintro e' w4 ⟨rfl, hO4⟩
  have HO4 := Lib.hid (HO3.out.trans hO4)
  have HZ4 := Lib.hid (row_still hO4 HZ3.out)
  have HE4 := Lib.hid (HE3.out.only hO4)
  rw [show textU s1 e.picks = peK e 0 from HXE.out.symm.trans (peK_zero e).symm]
  clear hO4 c3 HXE HX3
  have hlt4 : w.heap.size < w4.heap.size := (Array.getElem?_eq_some_iff.1 HZ4.out).1
  have c4 : w4.cell? ⟨w.heap.size, 4, none⟩ = some (.slice aw1 e.wishes.length cw) := cell_of_row _ _ 4 _ _ _ HZ4.out
  have c5 : w4.cell? ⟨w.heap.size, 5, none⟩ = some (.slice ag1 e.groups.length cg) := cell_of_row _ _ 5 _ _ _ HZ4.out
  obtain ⟨s0, hs0⟩ : ∃ s, peK e 0 = s := ⟨_, rfl⟩
  rw [hs0]
  have HSE := Lib.hid hs0
  clear hs0
  go_wp2_with fail
  have HO5 := Lib.hid (HO4.out.alloc (.cells #[.slice aw1 e.wishes.length cw, .slice ag1 e.groups.length cg] 42))
  have HQ := Lib.hid (heap_alloc_last w4 (.cells #[.slice aw1 e.wishes.length cw, .slice ag1 e.groups.length cg] 42))
  have HE5 := Lib.hid (HE4.out.only ((Only.refl (fun _ => False) w4).alloc (.cells #[.slice aw1 e.wishes.length cw, .slice ag1 e.groups.length cg] 42)))
  clear c4 c5
  generalize (w4.alloc (.cells #[.slice aw1 e.wishes.length cw, .slice ag1 e.groups.length cg] 42)) = w5 at *
  generalize w4.heap.size = B at *
  go_loopw [3, 32] (fun sv iv wr => ∃ k : Nat, iv = .int .i64 k ∧ k ≤ 2 ∧ sv = .string (peK e k) ∧ Only (fun _ => False) w5 wr) (fun _ iv _ => 2 - (intOf iv).toNat)
  case atStart => exact ⟨0, rfl, by decide, by rw [HSE.out], Only.refl _ _⟩
  case round =>
    obtain ⟨k, rfl, hk, rfl, hO⟩ := hrel
    have HOR := Lib.hid hO
    clear hO
    by_cases hlt : k < 2
    · have j1 : (k : Int) < 2 := by omega
      have j2 : 0 ≤ (k : Int) := by omega
      have HQR := Lib.hid (row_still HOR.out HQ.out)
      obtain ⟨a, c, d0, hown⟩ := lk_own (HE5.out.only HOR.out) HQR.out hlt
      have HW := Lib.hid hown
      have HLT := Lib.hid hlt
      have HLL := Lib.hid (lk_len (k := k) HPR.out.2.2.1)
      have HAN := Lib.hid (all_20 (HPR.out.2.2.2 k))
      have HPK := Lib.hid (peK_succ e k)
      have hsk := HSZ.out k
      have hBr : B < wr.heap.size := (Array.getElem?_eq_some_iff.1 HQR.out).1
      clear hown hlt
      generalize lkE e k = l at *
      generalize peK e k = s at *
      go_wp2_with fail
      have HOb := Lib.hid (HOR.out.alloc (.cells #[.int .i64 l.length] 3))
      have HWb := Lib.hid (((Only.refl (fun _ => False) wr).alloc (.cells #[.int .i64 l.length] 3)).owns HW.out (fun _ _ h => h))
      refine (text_any s (some ⟨wr.heap.size, 0, none⟩) 1 [(l.length : Int)] (wr.alloc (.cells #[.int .i64 l.length] 3)) (by exact pts_new wr [(l.length : Int)] (by simp) (by simp)) (by simp) (by omega) (fun n hn => by rw [List.mem_singleton.1 hn]; exact len_R64 (by have := HLL.out; omega)) (HG.out.only (HO5.out.trans HOb.out))).mono ?_
      rintro e' w6 ⟨rfl, hO6⟩
      have HO6 := Lib.hid (HOb.out.trans hO6)
      have HW6 := Lib.hid (hO6.owns HWb.out (fun _ _ h => h))
      have HS1 := Lib.hid (textU_size (word := s) (ns := [(l.length : Int)]) (fun n hn => by rw [List.mem_singleton.1 hn]; exact len_R64 (by have := HLL.out; omega)))
      have HPK := Lib.hid (show peK e (k + 1) = addN (textU s [(l.length : Int)]) l from HPK.out)
      have hs1 : (textU s [(l.length : Int)]).size ≤ 2200 := by have h := HS1.out; simp only [List.length_cons, List.length_nil] at h; omega
      generalize textU s [(l.length : Int)] = s1 at *
      clear hO6
      go_wp2_with fail
      generalize wr = w7 at *
      go_loopw [3, 43] (fun sv jv wr => ∃ j : Nat, jv = .int .i64 j ∧ j ≤ l.length ∧ sv = .string (addN s1 (l.take j)) ∧ Only (fun _ => False) w6 wr) (fun _ jv _ => l.length - (intOf jv).toNat)
      case atStart => exact ⟨0, rfl, Nat.zero_le _, rfl, Only.refl _ _⟩
      case round =>
        obtain ⟨j, rfl, hj, rfl, hO⟩ := hrel
        have HOI := Lib.hid hO
        have HWI := Lib.hid (hO.owns HW6.out (fun _ _ h => h))
        clear hO
        by_cases hjl : j < l.length
        · have m1 : (j : Int) < l.length := by omega
          have m2 : 0 ≤ (j : Int) := by omega
          obtain ⟨g, rfl, hg, hq1, hq2, d1⟩ := nrow_cell HWI.out hjl
          have HJL := Lib.hid hjl
          have HJN := Lib.hid (show addN s1 (l.take (j + 1)) = addN s1 (l.take j) ++ (⟨#[32]⟩ ++ naAt l j) by rw [na_take hjl, addN_snoc])
          have hz1 : (addN s1 (l.take j)).size ≤ 3000 := by
            have h := addN_size (s := s1) (l := l.take j) (fun w hw => HAN.out w (List.mem_of_mem_take hw))
            have h2 : (l.take j).length ≤ 12 := by rw [List.length_take]; have := HLL.out; omega
            omega
          have hz2 : (naAt l j).size ≤ 20 := HAN.out _ (by unfold naAt; simp [List.getD, hjl])
          generalize naAt l j = y at *
          generalize addN s1 (l.take j) = t at *
          have z1 : ¬ (9223372036854775807 < 1 + y.size) := by omega
          have z2 : ¬ (9223372036854775807 < t.size + (1 + y.size)) := by omega
          go_wp2_with fail
          go_roundw
          case rel => exact ⟨j + 1, by go_num, HJL.out, by rw [HJN.out], HOI.out⟩
          case measure => simp [intOf]; have := HJL.out; omega
        · obtain rfl : j = l.length := by omega
          have m1 : ¬ (l.length : Int) < l.length := by omega
          have HPX := Lib.hid (show peK e (k + 1) = addN s1 (l.take l.length) by rw [HPK.out, List.take_length])
          generalize addN s1 (l.take l.length) = t at *
          clear hjl hj
          go_wp2_with fail
          go_roundw
          case rel => exact ⟨k + 1, by go_num, HLT.out, by rw [HPX.out], HO6.out.trans HOI.out⟩
          case measure => simp [intOf]; have := HLT.out; omega
    · obtain rfl : k = 2 := by omega
      have j1 : ¬ (2 : Int) < 2 := by omega
      have HF := Lib.hid HPE.out
      obtain ⟨t, ht⟩ : ∃ t, peK e 2 = t := ⟨_, rfl⟩
      rw [ht] at HF ⊢
      clear hlt hk
      go_wp2_with fail
      go_ret
      exact ⟨by rw [HF.out]; rfl, HO5.out.trans HOR.out⟩
end Go.Proofs.YteikkpiginfbkaaGreatDoor
