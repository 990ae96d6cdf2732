/-
  strings.Join (as the kit's shelf walks it; this dump's copyCheck bears a refused branch, so it is not laid).
  The program's scalars of numbers (package equal): scalar.
  The program's proofs of equal logarithms: Verify.
  The program's proofs of equal logarithms: Verify, all of it.
  The program's proofs of equal logarithms: Prove.
  A proof that was made is accepted (plain).
  The reference's proofs of equal logarithms: decimal, joined, Challenge, side.
  Numbers in decimal, negative ones too: strconv.Itoa, the reference's decimal.
  The beacon (plain): bases, partials, what is accepted, what is combined.
  The program's beacon: Base, Eval, accepts.
  The program's beacon: Verify, Combine's closure, divide.
  The program's beacon: Text.
  The reference's proofs of equal logarithms: Verify.
  The reference's proofs of equal logarithms: Exponent, ProveWith, Prove.
  The reference's beacon: decimal, Base, Eval.
  The program's beacon: divide.
  The program's beacon: Combine.
  Decimals by recursion on a bound, so that the kernel can reckon them (plain).
  Numbers that the kernel reckons: proofs for other shares are not accepted.
  The examples of layer 9 (plain).
  The sanity of layer 9.
  A polynomial with weights by numbers (plain).
-/
import Derived.Test.YtlhfgbkonmgahaaGreatDoorPt17
import Derived.Test.YtlhfgbkonmgahaaGreatDoorShelf
import Derived.Lib.JoinLaws
import Derived.Lib.Join
import Derived.Deep.OwnRows
import Derived.Test.YtlhfgbkonmgahaaGreatDoorPt02
import Derived.Test.YtlhfgbkonmgahaaGreatDoorPt12
import Derived.Test.YtlhfgbkonmgahaaGreatDoorPt14
import Derived.Test.YtlhfgbkonmgahaaGreatDoorPt15
import Derived.Test.YtlhfgbkonmgahaaGreatDoorPt09
import Derived.Test.YtlhfgbkonmgahaaGreatDoorPt11
namespace Go.Proofs.YtlhfgbkonmgahaaGreatDoor
open Go.RowKit

theorem bld_ofGrow {B b : Nat} {w : World} (h : Lib.BuilderAt 121 5 B b (.pointer (some ⟨b, 0, none⟩)) [] w) : BldAt B b [] w := .inr (Lib.BuilderAtF.of h)
theorem join_many_len (x0 : ByteArray) (r : List ByteArray) (sep : ByteArray) (k : Nat) (h : (Lib.join ((x0 :: r).map (·.data.toList)) sep.data.toList).length ≤ 1000000000) :
    (x0.data.toList ++ Lib.joinTail sep.data.toList ((r.map (·.data.toList)).take k)).length ≤ 1000000000 := by
  rw [List.map_cons, Lib.join_cons, List.length_append] at h
  have h2 := Lib.joinTail_take_le sep.data.toList (r.map (·.data.toList)) k
  rw [List.length_append]
  omega

set_option maxHeartbeats 4000000 in
set_option maxRecDepth 100000 in
/-- strings.Join of two texts at least. -/
theorem sjoin_many (bk o c : Nat) (xs : List ByteArray) (sep : ByteArray) (w : World)
    (hcells : ∀ (j : Nat) x, xs[j]? = some x → w.cell? ⟨bk, o + j, none⟩ = some (.string x))
    (hbk : bk < w.heap.size) (h2 : 2 ≤ xs.length) (hN : xs.length ≤ 1000000) (hcap : xs.length ≤ c)
    (hlen : (Lib.join (xs.map (·.data.toList)) sep.data.toList).length ≤ 1000000000) :
    Calls Tryz.prog 59 #[.slice (some ⟨bk, o, none⟩) xs.length c, .string sep] w fun e w' => e = .returned (.string ⟨(Lib.join (xs.map (·.data.toList)) sep.data.toList).toArray⟩) ∧ Below w.heap.size w w' := by
  have HC := Lib.hid hcells
  clear hcells
  obtain ⟨x0, r, hxs⟩ : ∃ x0 r, xs = x0 :: r := by
    cases xs with
    | nil => simp at h2
    | cons a t => exact ⟨a, t, rfl⟩
  have hjl : sep.size * (xs.length - 1) + Lib.lens (xs.map (·.data.toList)) ≤ 1000000000 := by
    have := Lib.join_length x0.data.toList (r.map (·.data.toList)) sep.data.toList
    rw [hxs] at hlen ⊢
    simp only [List.map_cons] at hlen ⊢
    rw [this, List.length_map] at hlen
    rw [Lib.size_eq, List.length_cons, Nat.add_sub_cancel]
    exact hlen
  have hmul : sep.size * (xs.length - 1) ≤ 1000000000 := by omega
  generalize hM : sep.size * (xs.length - 1) = M at hjl hmul
  have hcast : ((xs.length : Int) - 1) = ((xs.length - 1 : Nat) : Int) := by omega
  have hlt : sep.size < 9223372036854775807 / (xs.length - 1) := by
    have : sep.size + 1 ≤ 9223372036854775807 / (xs.length - 1) := by
      rw [Nat.le_div_iff_mul_le (by omega), Nat.add_mul, hM]
      omega
    omega
  have hdv : ¬ (9223372036854775807 / ((xs.length : Int) - 1) ≤ (sep.size : Int)) := by
    have e : (9223372036854775807 : Int) / ((xs.length - 1 : Nat) : Int) = ((9223372036854775807 / (xs.length - 1) : Nat) : Int) := IntWalk.up_div (x := 9223372036854775807) rfl rfl
    rw [hcast, e]
    generalize 9223372036854775807 / (xs.length - 1) = q at hlt
    omega
  have hprod : wrap64 ((sep.size : Int) * ((xs.length : Int) - 1)) = (M : Int) := by
    have e : (sep.size : Int) * ((xs.length - 1 : Nat) : Int) = ((sep.size * (xs.length - 1) : Nat) : Int) := IntWalk.up_mul rfl rfl
    rw [hcast, e, hM]
    exact IntWalk.wrap64_in _ ⟨by omega, by omega⟩
  have hM0 : sep.size = 0 → M = 0 := fun h => by rw [← hM, h, Nat.zero_mul]
  clear hlt hcast
  have hne0 : ((xs.length : Int) == 0) = false := beq_eq_false_iff_ne.2 (by omega)
  have hne1 : ((xs.length : Int) == 1) = false := beq_eq_false_iff_ne.2 (by omega)
  have Hxs := Lib.hid hxs
  have Hlen := Lib.hid (fun k => join_many_len x0 r sep k (hxs ▸ hlen))
  clear hxs hlen
  go_enter Tryz.func59, Tryz.ntmps59
  go_wp2_with fail
  all_goals (
    go_loop [5, 41] (fun n i => ∃ k : Nat, k ≤ xs.length ∧ i = .int .i64 k ∧ n = .int .i64 ((M + Lib.lens ((xs.map (·.data.toList)).take k) : Nat) : Int)) (fun _ i => xs.length - (intOf i).toNat)
    case atStart => exact ⟨0, Nat.zero_le _, rfl, by first | (simp [Lib.lens]; done) | (have := hM0 (by omega); simp [Lib.lens, this])⟩
    case round =>
      obtain ⟨k, hk, rfl, rfl⟩ := hrel
      by_cases hkn : k < xs.length
      · obtain ⟨x, hx⟩ : ∃ x, xs[k]? = some x := ⟨xs[k], List.getElem?_eq_getElem hkn⟩
        have hc := HC.out k x hx
        have hstep := Lib.lens_take_succ (xs.map (·.data.toList)) k x.data.toList (by simp [hx])
        have hbound : Lib.lens ((xs.map (·.data.toList)).take (k + 1)) ≤ Lib.lens (xs.map (·.data.toList)) := Lib.lens_take_le _ _
        rw [← Lib.size_eq] at hstep
        generalize hA1 : Lib.lens ((xs.map (·.data.toList)).take (k + 1)) = A1 at hstep hbound
        generalize Lib.lens ((xs.map (·.data.toList)).take k) = A0 at hstep
        have HA1 := Lib.hid hA1
        clear hA1
        go_wp2
        exact ⟨⟨k + 1, by omega, by go_num, by rw [HA1.out]; refine congrArg _ ?_; omega⟩, by simp [intOf]; omega⟩
      · have hke : k = xs.length := by omega
        subst hke
        have hall : (xs.map (·.data.toList)).take xs.length = xs.map (·.data.toList) := List.take_of_length_le (by simp)
        rw [hall]
        generalize hT : Lib.lens (xs.map (·.data.toList)) = T at hjl
        have HT := Lib.hid hT
        clear hT hall
        go_wp2_with fail
        have hMT : ((M : Int) + (T : Int)) = ((M + T : Nat) : Int) := by omega
        rw [hMT]
        refine (Tryz.Builder_Grow_fresh w.heap.size w.heap.size (M + T) _ (Nat.le_refl _) (heap_alloc_new w _) (by simp) (by omega)).mono ?_
        rintro e w1 ⟨rfl, h1, hb1⟩
        have hb1' : Below w.heap.size w w1 := ((Below.refl w.heap.size w).alloc (Nat.le_refl _) _).trans hb1
        have hx0 : xs[0]? = some x0 := by rw [Hxs.out]; rfl
        have hc0 : w1.cell? ⟨bk, o, none⟩ = some (.string x0) := by
          rw [hb1'.cell (p := ⟨bk, o, none⟩) hbk]
          exact HC.out 0 x0 hx0
        have H1 := Lib.hid (bld_ofGrow h1)
        have Hb1 := Lib.hid hb1'
        have hBw1 : w.heap.size ≤ w1.heap.size := hb1'.size
        clear h1 hb1 hb1' hMT
        have Hwhole := Lib.hid (show Lib.join (xs.map (·.data.toList)) sep.data.toList = x0.data.toList ++ Lib.joinTail sep.data.toList (r.map (·.data.toList)) by
          rw [Hxs.out, List.map_cons, Lib.join_cons])
        go_wp2_with fail
        refine (bwrite_any w.heap.size w.heap.size [] x0 w1 H1.out (by have := Hlen.out 0; rw [List.length_append, ← Lib.size_eq] at this; show 0 + _ ≤ _; omega) hBw1).mono ?_
        rintro e w2 ⟨rfl, hp2⟩
        have H2 := Lib.hid (show BldAt w.heap.size w.heap.size (x0.data.toList ++ Lib.joinTail sep.data.toList ((r.map (·.data.toList)).take 0)) w2 by
          simpa [Lib.joinTail] using hp2.is)
        have Hb2 := Lib.hid (Hb1.out.trans hp2.below)
        clear hp2
        have hrl : r.length = xs.length - 1 := by rw [Hxs.out]; simp
        go_wp2_with fail
        go_loopw [65] (fun i wr => ∃ k : Nat, k ≤ r.length ∧ i = .int .i64 k ∧ Hid (BldAt w.heap.size w.heap.size (x0.data.toList ++ Lib.joinTail sep.data.toList ((r.map (·.data.toList)).take k)) wr) ∧ Hid (Below w.heap.size w wr)) (fun i _ => r.length - (intOf i).toNat)
        case atStart => exact ⟨0, Nat.zero_le _, rfl, H2, Hb2⟩
        case round =>
          obtain ⟨k, hk', rfl, HB, HW⟩ := hrel
          by_cases hkr : k < r.length
          · obtain ⟨y, hy⟩ : ∃ y, r[k]? = some y := ⟨r[k], List.getElem?_eq_getElem hkr⟩
            have hxy : xs[k + 1]? = some y := by rw [Hxs.out]; simpa using hy
            have hcy : wr.cell? ⟨bk, o + 1 + k, none⟩ = some (.string y) := by
              rw [HW.out.cell (p := ⟨bk, o + 1 + k, none⟩) hbk, show o + 1 + k = o + (k + 1) by omega]
              exact HC.out (k + 1) y hxy
            have hBw : w.heap.size ≤ wr.heap.size := HW.out.size
            have hnext : x0.data.toList ++ Lib.joinTail sep.data.toList ((r.map (·.data.toList)).take k) ++ sep.data.toList ++ y.data.toList = x0.data.toList ++ Lib.joinTail sep.data.toList ((r.map (·.data.toList)).take (k + 1)) := by
              rw [Lib.joinTail_take_succ sep.data.toList (r.map (·.data.toList)) k y.data.toList (by simp [hy]), List.append_assoc, List.append_assoc]
              simp
            have hl1 := Hlen.out (k + 1)
            rw [← hnext] at hl1
            simp only [List.length_append, ← Lib.size_eq] at hl1
            have Hn := Lib.hid hnext
            have Hl1 := Lib.hid (show (x0.data.toList ++ Lib.joinTail sep.data.toList ((r.map (·.data.toList)).take k)).length + sep.size + y.size ≤ 1000000000 by simp only [List.length_append, ← Lib.size_eq]; omega)
            clear hnext hy hxy hl1
            go_wp2_with fail
            refine (bwrite_any w.heap.size w.heap.size _ sep wr HB.out (by have := Hl1.out; omega) hBw).mono ?_
            rintro e w3 ⟨rfl, hp3⟩
            have hBw3 : w.heap.size ≤ w3.heap.size := Nat.le_trans hBw hp3.below.size
            have H3 := Lib.hid hp3
            clear hp3
            go_wp2_with fail
            refine (bwrite_any w.heap.size w.heap.size _ y w3 H3.out.is (by rw [List.length_append, ← Lib.size_eq]; have := Hl1.out; omega) hBw3).mono ?_
            rintro e w4 ⟨rfl, hp4⟩
            have H4 := Lib.hid (show BldAt w.heap.size w.heap.size _ w4 from Hn.out ▸ hp4.is)
            have Hb4 := Lib.hid ((HW.out.trans H3.out.below).trans hp4.below)
            clear hp4
            go_wp2
            exact ⟨⟨k + 1, by omega, by go_num, H4, Hb4⟩, by simp [intOf]; omega⟩
          · have hke : k = r.length := by omega
            subst hke
            have hfull : (r.map (·.data.toList)).take r.length = r.map (·.data.toList) := List.take_of_length_le (by simp)
            have HB' := Lib.hid (show BldAt w.heap.size w.heap.size (Lib.join (xs.map (·.data.toList)) sep.data.toList) wr by
              rw [Hwhole.out, ← hfull]
              exact HB.out)
            have hBw : w.heap.size ≤ wr.heap.size := HW.out.size
            go_wp2_with fail
            refine (bstring_any w.heap.size w.heap.size _ wr HB'.out hBw).mono ?_
            rintro e w5 ⟨rfl, hb5⟩
            have Hb5 := Lib.hid (HW.out.trans hb5)
            clear hb5
            go_wp2
            go_ret
            exact ⟨rfl, Hb5.out⟩)
end Go.Proofs.YtlhfgbkonmgahaaGreatDoor

namespace Go.Proofs.YtlhfgbkonmgahaaGreatDoor
open Go.RowKit

/-- Numbers in decimal, with slashes between them. -/
def digsL (zs : List Int) : List ByteArray := zs.map fun z => decB z.toNat
def joinL (zs : List Int) : List UInt8 := Lib.join ((digsL zs).map (·.data.toList)) [47]
def joinN (zs : List Int) : ByteArray := ⟨(joinL zs).toArray⟩
/-- Numbers from 0 on, in a word. -/
def Nats (zs : List Int) : Prop := ∀ z ∈ zs, 0 ≤ z ∧ z ≤ 9223372036854775807
theorem Nats.at {zs : List Int} (h : Nats zs) {k : Nat} (hk : k < zs.length) : 0 ≤ ptAt zs k ∧ ptAt zs k ≤ 9223372036854775807 := by
  have : ptAt zs k = zs[k] := by simp [ptAt, List.getD, hk]
  rw [this]
  exact h _ (List.getElem_mem hk)
theorem digsL_lens : ∀ (zs : List Int), Nats zs → Lib.lens ((digsL zs).map (·.data.toList)) ≤ 21 * zs.length
  | [], _ => by simp [digsL, Lib.lens]
  | z :: zs, h => by
    have ih := digsL_lens zs (fun x hx => h x (List.mem_cons_of_mem _ hx))
    obtain ⟨h0, h1⟩ := h z (List.mem_cons_self)
    have := decB_size (n := z.toNat) (by omega)
    have e : Lib.lens ((digsL (z :: zs)).map (·.data.toList)) = (decB z.toNat).size + Lib.lens ((digsL zs).map (·.data.toList)) := by
      simp [digsL, Lib.lens]
    rw [e, List.length_cons]
    omega
theorem joinL_len (zs : List Int) (h : Nats zs) : (joinL zs).length ≤ 22 * zs.length := by
  have hl := digsL_lens zs h
  cases zs with
  | nil => exact Nat.le_of_eq rfl
  | cons z zs =>
    unfold joinL
    have e : (digsL (z :: zs)).map (·.data.toList) = (decB z.toNat).data.toList :: (digsL zs).map (·.data.toList) := rfl
    rw [e, Lib.join_length, ← e]
    have : ((digsL zs).map (·.data.toList)).length = zs.length := by simp [digsL]
    rw [this]
    show 1 * _ + _ ≤ _
    simp only [List.length_cons] at *
    omega
theorem joinN_size (zs : List Int) (h : Nats zs) : (joinN zs).size ≤ 22 * zs.length := joinL_len zs h
/-- The scalar of a word and numbers. -/
def wscZ (word : ByteArray) (zs : List Int) : Int := scalarZ (word ++ (⟨#[47]⟩ : ByteArray) ++ joinN zs)
theorem Tryz.infoStr : (Tryz.prog.info? 9).map (fun i => (i.zero, i.size, i.bytes)) = some (some (.string ⟨#[]⟩), 1, 16) := by kernel_rfl
/-- What the block of texts holds. -/
def txtAt (zs : List Int) (k : Nat) (j : Nat) : Value := if j < k then .string (decB (ptAt zs j).toNat) else .string ⟨#[]⟩
structure TxsAt (w wr : World) (zs : List Int) (k : Nat) : Prop where
  row : wr.rowIs w.heap.size 9 zs.length (txtAt zs k)
  only : Only (fun _ => False) w wr
theorem TxsAt.next {w wr wr' : World} {zs : List Int} {k : Nat} (h : TxsAt w wr zs k) (hO : Only (fun _ => False) wr wr') : TxsAt w (wr'.setCell ⟨w.heap.size, k, none⟩ (.string (decB (ptAt zs k).toNat))) zs (k + 1) := by
  have hr := h.row.of_block (hO.block w.heap.size h.row.lt (fun e => e))
  refine ⟨(hr.set k _).congr (fun j _ => ?_), (h.only.trans hO).setCell (.inr (Nat.le_refl _)) _⟩
  unfold txtAt
  by_cases e : j = k
  · subst e; rw [if_pos rfl, if_pos (by omega)]
  · rw [if_neg e]
    by_cases e2 : j < k
    · rw [if_pos e2, if_pos (by omega)]
    · rw [if_neg e2, if_neg (by omega)]
set_option maxHeartbeats 2000000 in
set_option maxRecDepth 100000 in
theorem escalar_any (word : ByteArray) (a : Option Addr) (c : Nat) (zs : List Int) (w : World) (hI : PtsAt w.heap.size w (.slice a zs.length c) zs) (hz : Nats zs) (hlen : zs.length ≤ 100) (hne : 2 ≤ zs.length) (hw : word.size ≤ 100) (hG : Glob w) :
    Calls Tryz.prog 70 #[.string word, .slice a zs.length c] w fun e w' => e = .returned (.int .i64 (wscZ word zs)) ∧ Only (fun _ => False) w w' := by
  obtain ⟨j0, hj0, hy0, hy1, hy2⟩ := info_parts Tryz.infoStr
  have HI := Lib.hid hI
  have HG := Lib.hid hG
  have HZ := Lib.hid hz
  have hjs := joinN_size zs hz
  have hJL := joinL_len zs hz
  have HSC := Lib.hid (fun w hG => pscalar_any (word ++ (⟨#[47]⟩ : ByteArray) ++ joinN zs) w (by rw [ByteArray.size_append, ByteArray.size_append]; show _ + 1 + _ ≤ _; omega) hG)
  have HW := Lib.hid (show wscZ word zs = scalarZ (word ++ (⟨#[47]⟩ : ByteArray) ++ joinN zs) from rfl)
  have HJN := Lib.hid (show (⟨(Lib.join ((digsL zs).map (·.data.toList)) (⟨#[47]⟩ : ByteArray).data.toList).toArray⟩ : ByteArray) = joinN zs from rfl)
  have HJL := Lib.hid (show (Lib.join ((digsL zs).map (·.data.toList)) (⟨#[47]⟩ : ByteArray).data.toList).length ≤ 1000000000 by
    show (joinL zs).length ≤ _; omega)
  have HDL := Lib.hid (show (digsL zs).length = zs.length by simp [digsL])
  have HJS := Lib.hid hjs
  clear hI hz hjs hJL
  have hmk := run_make_row (P := Tryz.prog) 68 9 j0 _ Tryz.underlying68 hj0 hy0 hy1 rfl .i64 .i64 zs.length (by rw [hy2]; omega) (by omega) w
  have HT0 := Lib.hid (show TxsAt w (w.alloc (.cells (madeCells #[.string ⟨#[]⟩] zs.length) 9)) zs 0 from
    ⟨(World.rowIs_made w _ _ _).congr (fun j _ => by unfold txtAt; rw [if_neg (by omega)]), (Only.refl _ w).alloc _⟩)
  go_enter Tryz.func70, Tryz.ntmps70
  go_wp2_with fail
  clear hmk
  go_loopw [13] (fun vi wr => ∃ k : Nat, vi = .int .i64 k ∧ k ≤ zs.length ∧ TxsAt w wr zs k) (fun vi _ => zs.length - (intOf vi).toNat)
  case atStart => exact ⟨0, rfl, Nat.zero_le _, HT0.out⟩
  case round =>
    clear HT0
    obtain ⟨k, rfl, hk, hT⟩ := hrel
    have HT := Lib.hid hT
    clear hT
    by_cases hlt : k < zs.length
    · obtain ⟨b, off, rfl, hb, hc1, hc2, hcell⟩ := (HI.out.only HT.out.only).cellAt hlt
      obtain ⟨z0, z1⟩ := HZ.out.at hlt
      have HN := Lib.hid (fun wr' hO => HT.out.next (wr' := wr') hO)
      have HIT := Lib.hid (fun w hG => itoa_any (ptAt zs k).toNat w (by omega) hG)
      obtain ⟨n, hn⟩ := Int.eq_ofNat_of_zero_le z0
      rw [hn] at hcell HIT HN
      rw [Int.toNat_natCast] at HIT HN
      clear hn z0 z1
      go_wp2_with fail
      refine (HIT.out _ (HG.out.only HT.out.only)).mono ?_
      rintro e w2 ⟨rfl, hO2⟩
      have HT2 := Lib.hid (HN.out w2 hO2)
      have hrw := HT.out.row.of_block (hO2.block w.heap.size HT.out.row.lt (fun e => e))
      have p0 := hrw.cell hlt
      have pf := hrw.frozen k
      have l0 := hrw.lt
      clear hO2 hcell HIT HN hrw
      go_wp2
      case roundEnd => exact ⟨⟨k + 1, by go_num, by omega, HT2.out⟩, by simp [intOf]; omega⟩
    · obtain rfl : k = zs.length := by omega
      have hcells : ∀ (j : Nat) x, (digsL zs)[j]? = some x → wr.cell? ⟨w.heap.size, 0 + j, none⟩ = some (.string x) := fun j x hx => by
        unfold digsL at hx
        rw [List.getElem?_map, Option.map_eq_some_iff] at hx
        obtain ⟨z, hz, rfl⟩ := hx
        obtain ⟨hj, rfl⟩ := List.getElem?_eq_some_iff.1 hz
        have := HT.out.row.cell (i := j) hj
        rw [Nat.zero_add, this]
        unfold txtAt
        rw [if_pos hj]
        simp [ptAt, List.getD, hj]
      have hsj := sjoin_many w.heap.size 0 zs.length (digsL zs) ⟨#[47]⟩ wr hcells HT.out.row.lt (by rw [HDL.out]; exact hne) (by rw [HDL.out]; omega) (by rw [HDL.out]; omega) HJL.out
      rw [HDL.out, HJN.out] at hsj
      have HSJ := Lib.hid hsj
      clear hsj hcells
      obtain ⟨J, hJ⟩ : ∃ J, joinN zs = J := ⟨_, rfl⟩
      have HS2 := Lib.hid HSC.out
      have HJS2 := Lib.hid HJS.out
      have HW2 := Lib.hid HW.out
      rw [hJ] at HSJ HS2 HJS2 HW2
      clear HSC HJS HW HJN HJL HDL hJ
      go_wp2_with fail
      refine HSJ.out.mono ?_
      rintro e w2 ⟨rfl, hb2⟩
      have HO2 := Lib.hid (HT.out.only.trans (Only.ofBelow hb2 _))
      clear hb2
      have js := HJS2.out
      have ws : (word ++ (⟨#[47]⟩ : ByteArray)).size ≤ 101 := by rw [ByteArray.size_append]; show _ + 1 ≤ _; omega
      go_wp2_with fail
      refine (HS2.out _ (HG.out.only HO2.out)).mono ?_
      rintro e w3 ⟨rfl, hO3⟩
      have HO3 := Lib.hid (HO2.out.trans hO3)
      clear hO3
      go_wp2
      go_ret
      exact ⟨by rw [HW2.out]; rfl, HO3.out⟩
end Go.Proofs.YtlhfgbkonmgahaaGreatDoor

namespace Go.Proofs.YtlhfgbkonmgahaaGreatDoor
open Go.RowKit

/-- A side of the check. -/
def sideZ (base pw c z : Int) : Int := powM base z 2305843009213691579 * powM pw (1152921504606845789 - c) 2305843009213691579 % 2305843009213691579
def wEq : ByteArray := ⟨#[101, 113, 117, 97, 108]⟩
def wNo : ByteArray := ⟨#[110, 111, 110, 99, 101]⟩
/-- The numbers that a proof is over. -/
def vNums (g a h b c z : Int) : List Int := [g, a, h, b, sideZ g a c z, sideZ h b c z]
/-- The challenge fits, and its parts are in the reach. -/
def rngB (c z : Int) : Bool := !(decide (c < 0) || decide (1152921504606845788 < c) || decide (z < 0) || decide (1152921504606845788 < z))
/-- Is a proof accepted? -/
def verB (g a h b c z : Int) : Bool := (memB g && memB a && memB h && memB b) && (rngB c z && (c == wscZ wEq (vNums g a h b c z)))
theorem memB_bd {a : Int} (h : memB a = true) : 1 ≤ a ∧ a < 2305843009213691579 := by
  unfold memB gP at h
  simp only [Bool.and_eq_true, decide_eq_true_eq] at h
  exact h.1
theorem rngB_bd {c z : Int} (h : rngB c z = true) : (0 ≤ c ∧ c ≤ 1152921504606845788) ∧ (0 ≤ z ∧ z ≤ 1152921504606845788) := by
  unfold rngB at h
  simp only [Bool.not_eq_true', Bool.or_eq_false_iff, decide_eq_false_iff_not] at h
  omega
theorem sideZ_bd (base pw c z : Int) : 0 ≤ sideZ base pw c z ∧ sideZ base pw c z < 2305843009213691579 := emod_self_lt _ _ (by decide)
theorem vNums_nats {g a h b : Int} (c z : Int) (hg : memB g = true) (ha : memB a = true) (hh : memB h = true) (hb : memB b = true) : Nats (vNums g a h b c z) := by
  have := memB_bd hg
  have := memB_bd ha
  have := memB_bd hh
  have := memB_bd hb
  have := sideZ_bd g a c z
  have := sideZ_bd h b c z
  intro x hx
  simp only [vNums, List.mem_cons, List.not_mem_nil, or_false] at hx
  rcases hx with rfl | rfl | rfl | rfl | rfl | rfl <;> omega

set_option maxRecDepth 100000 in
set_option maxHeartbeats 1000000 in
theorem side_any (b : Nat) (base pw c z : Int) (w : World) (e0 : w.cell? ⟨b, 0, none⟩ = some (.int .i64 c)) (e1 : w.cell? ⟨b, 1, none⟩ = some (.int .i64 z)) (hc : 0 ≤ c ∧ c ≤ 1152921504606845788) (hz : 0 ≤ z ∧ z ≤ 1152921504606845788) :
    Calls Tryz.prog 99 #[.int .i64 base, .int .i64 pw, .pointer (some ⟨b, 0, none⟩)] w fun e w' => e = .returned (.int .i64 (sideZ base pw c z)) ∧ Only (fun _ => False) w w' := by
  have HP1 := Lib.hid (fun w => pow_any base z 2305843009213691579 w (by decide) (by decide) hz.1 (by omega))
  have HP2 := Lib.hid (fun w => pow_any pw (1152921504606845789 - c) 2305843009213691579 w (by decide) (by decide) (by omega) (by omega))
  have HV := Lib.hid (show sideZ base pw c z = powM base z 2305843009213691579 * powM pw (1152921504606845789 - c) 2305843009213691579 % 2305843009213691579 from rfl)
  have hs : wrap64 (1152921504606845789 - c) = 1152921504606845789 - c := by unfold wrap64; omega
  generalize powM base z 2305843009213691579 = p1 at *
  generalize powM pw (1152921504606845789 - c) 2305843009213691579 = p2 at *
  have HM := Lib.hid (fun w => mul_any p1 p2 2305843009213691579 w (by decide) (by decide))
  rw [← HV.out] at HM
  generalize sideZ base pw c z = S at *
  have y0 := fun (d : Nat) (os : Array Obj) => cell_regrown e0 d os
  have y1 := fun (d : Nat) (os : Array Obj) => cell_regrown e1 d os
  clear e0 e1
  go_enter Tryz.func99, Tryz.ntmps99
  go_wp2_with fail
  refine wp_region_quiet_below (by kernel_rfl) (by kernel_rfl) ?_
  repeat (go_big_quiet_step (fail))
  go_big_quiet_step ((go_at_call 20; exact Calls.regrown_of ((HP1.out _).mono fun _ _ h => ⟨h.1, by rw [h.2]; exact (Below.refl _ _).alloc (Nat.le_refl _) _⟩)))
  repeat (go_big_quiet_step (fail))
  go_big_quiet_step ((go_at_call 20; exact Calls.regrown_of ((HP2.out _).mono fun _ _ h => ⟨h.1, by rw [h.2]; exact (Below.refl _ _).alloc (Nat.le_refl _) _⟩)))
  go_big_quiet_step ((go_at_call 23; exact Calls.regrown_of ((HM.out _).mono fun _ _ h => ⟨h.1, by rw [← h.2]; exact Below.refl _ _⟩)))
  repeat (go_big_quiet_step (fail))
  refine wpQuiet_nil ?_
  intro w2 hw'
  obtain ⟨pq, hw''⟩ := hw'
  have HO := Lib.hid (Only.ofBelow (below_regrown w pq.d pq.os) (fun _ => False))
  rw [← hw''] at HO
  clear hw'' y0 y1
  go_wp2
  go_ret
  exact ⟨rfl, HO.out⟩

theorem Tryz.infoPf : (Tryz.prog.info? 28).map (·.size) = some 2 := by kernel_rfl
set_option maxRecDepth 100000 in
set_option maxHeartbeats 4000000 in
theorem verify_no1 (g a h b c z : Int) (w : World) (hm : (memB g && memB a && memB h && memB b) = false) :
    Calls Tryz.prog 79 #[.int .i64 g, .int .i64 a, .int .i64 h, .int .i64 b, .agg #[.int .i64 c, .int .i64 z]] w fun e w' => e = .returned (.bool false) ∧ Only (fun _ => False) w w' := by
  have HA := Lib.hid ((Only.refl (fun _ => False) w).alloc (.cells #[.int .i64 c, .int .i64 z] 28))
  have H1 := Lib.hid (fun w => member_is g _ w rfl)
  have H2 := Lib.hid (fun w => member_is a _ w rfl)
  have H3 := Lib.hid (fun w => member_is h _ w rfl)
  have H4 := Lib.hid (fun w => member_is b _ w rfl)
  generalize memB g = m1 at *
  generalize memB a = m2 at *
  generalize memB h = m3 at *
  generalize memB b = m4 at *
  go_enter Tryz.func79, Tryz.ntmps79
  go_wp2_with fail
  refine (H1.out _).mono ?_
  rintro e w1 ⟨rfl, hO1⟩
  have HO1 := Lib.hid (HA.out.trans hO1)
  clear hO1
  cases m1
  · go_wp2
    go_ret
    exact ⟨rfl, HO1.out⟩
  · go_wp2_with fail
    refine (H2.out _).mono ?_
    rintro e w2 ⟨rfl, hO2⟩
    have HO2 := Lib.hid (HO1.out.trans hO2)
    clear hO2
    cases m2
    · go_wp2
      go_ret
      exact ⟨rfl, HO2.out⟩
    · go_wp2_with fail
      refine (H3.out _).mono ?_
      rintro e w3 ⟨rfl, hO3⟩
      have HO3 := Lib.hid (HO2.out.trans hO3)
      clear hO3
      cases m3
      · go_wp2
        go_ret
        exact ⟨rfl, HO3.out⟩
      · go_wp2_with fail
        refine (H4.out _).mono ?_
        rintro e w4 ⟨rfl, hO4⟩
        have HO4 := Lib.hid (HO3.out.trans hO4)
        clear hO4
        cases m4
        · go_wp2
          go_ret
          exact ⟨rfl, HO4.out⟩
        · exact absurd hm (by decide)
set_option maxRecDepth 100000 in
set_option maxHeartbeats 4000000 in
theorem verify_no2 (g a h b c z : Int) (w : World) (hg : memB g = true) (ha : memB a = true) (hh : memB h = true) (hb : memB b = true) (hr : rngB c z = false) :
    Calls Tryz.prog 79 #[.int .i64 g, .int .i64 a, .int .i64 h, .int .i64 b, .agg #[.int .i64 c, .int .i64 z]] w fun e w' => e = .returned (.bool false) ∧ Only (fun _ => False) w w' := by
  have HA := Lib.hid ((Only.refl (fun _ => False) w).alloc (.cells #[.int .i64 c, .int .i64 z] 28))
  have HZ := Lib.hid (heap_alloc_last w (.cells #[.int .i64 c, .int .i64 z] 28))
  have H1 := Lib.hid (fun w => member_is g _ w hg)
  have H2 := Lib.hid (fun w => member_is a _ w ha)
  have H3 := Lib.hid (fun w => member_is h _ w hh)
  have H4 := Lib.hid (fun w => member_is b _ w hb)
  clear hg ha hh hb
  go_enter Tryz.func79, Tryz.ntmps79
  go_wp2_with fail
  refine (H1.out _).mono ?_
  rintro e w1 ⟨rfl, hO1⟩
  have HZ1 := Lib.hid (row_still hO1 HZ.out)
  have HO1 := Lib.hid (HA.out.trans hO1)
  clear hO1
  go_wp2_with fail
  refine (H2.out _).mono ?_
  rintro e w2 ⟨rfl, hO2⟩
  have HZ2 := Lib.hid (row_still hO2 HZ1.out)
  have HO2 := Lib.hid (HO1.out.trans hO2)
  clear hO2
  go_wp2_with fail
  refine (H3.out _).mono ?_
  rintro e w3 ⟨rfl, hO3⟩
  have HZ3 := Lib.hid (row_still hO3 HZ2.out)
  have HO3 := Lib.hid (HO2.out.trans hO3)
  clear hO3
  go_wp2_with fail
  refine (H4.out _).mono ?_
  rintro e w4 ⟨rfl, hO4⟩
  have HZ4 := Lib.hid (row_still hO4 HZ3.out)
  have HO4 := Lib.hid (HO3.out.trans hO4)
  clear hO4
  have e0 : _ = some (Value.int .i64 c) := cell_of_row _ _ 0 _ _ _ HZ4.out
  have e1 : _ = some (Value.int .i64 z) := cell_of_row _ _ 1 _ _ _ HZ4.out
  by_cases q1 : c < 0
  · go_wp2
    go_ret
    exact ⟨rfl, HO4.out⟩
  · by_cases q2 : 1152921504606845788 < c
    · go_wp2
      go_ret
      exact ⟨rfl, HO4.out⟩
    · by_cases q3 : z < 0
      · go_wp2
        go_ret
        exact ⟨rfl, HO4.out⟩
      · by_cases q4 : 1152921504606845788 < z
        · go_wp2
          go_ret
          exact ⟨rfl, HO4.out⟩
        · exact absurd hr (by unfold rngB; simp [q1, q2, q3, q4])
end Go.Proofs.YtlhfgbkonmgahaaGreatDoor

namespace Go.Proofs.YtlhfgbkonmgahaaGreatDoor
open Go.RowKit

set_option maxRecDepth 100000 in
set_option maxHeartbeats 4000000 in
theorem verify_yes (g a h b c z : Int) (w : World) (hg : memB g = true) (ha : memB a = true) (hh : memB h = true) (hb : memB b = true) (hr : rngB c z = true) (hG : Glob w) :
    Calls Tryz.prog 79 #[.int .i64 g, .int .i64 a, .int .i64 h, .int .i64 b, .agg #[.int .i64 c, .int .i64 z]] w fun e w' => e = .returned (.bool (c == wscZ wEq (vNums g a h b c z))) ∧ Only (fun _ => False) w w' := by
  have HG := Lib.hid hG
  have HA := Lib.hid ((Only.refl (fun _ => False) w).alloc (.cells #[.int .i64 c, .int .i64 z] 28))
  have HZ := Lib.hid (heap_alloc_last w (.cells #[.int .i64 c, .int .i64 z] 28))
  have H1 := Lib.hid (fun w => member_is g _ w hg)
  have H2 := Lib.hid (fun w => member_is a _ w ha)
  have H3 := Lib.hid (fun w => member_is h _ w hh)
  have H4 := Lib.hid (fun w => member_is b _ w hb)
  have HN := Lib.hid (vNums_nats c z hg ha hh hb)
  have HNE := Lib.hid (show vNums g a h b c z = [g, a, h, b, sideZ g a c z, sideZ h b c z] from rfl)
  obtain ⟨hc, hz⟩ := rngB_bd hr
  have HSD := Lib.hid (fun base pw w e0 e1 => side_any w.heap.size base pw c z w e0 e1 hc hz)
  have HS := Lib.hid (fun base pw B w e0 e1 => side_any B base pw c z w e0 e1 hc hz)
  have q1 : ¬ c < 0 := by omega
  have q2 : ¬ 1152921504606845788 < c := by omega
  have q3 : ¬ z < 0 := by omega
  have q4 : ¬ 1152921504606845788 < z := by omega
  clear hg ha hh hb hr hc hz hG HSD
  generalize vNums g a h b c z = ns at *
  go_enter Tryz.func79, Tryz.ntmps79
  go_wp2_with fail
  generalize hblk : w.heap.size = blk at *
  generalize w.alloc (.cells #[.int .i64 c, .int .i64 z] 28) = w0 at *
  refine (H1.out _).mono ?_
  rintro e w1 ⟨rfl, hO1⟩
  have HZ1 := Lib.hid (row_still hO1 HZ.out)
  have HO1 := Lib.hid (HA.out.trans hO1)
  clear hO1 HZ
  go_wp2_with fail
  refine (H2.out _).mono ?_
  rintro e w2 ⟨rfl, hO2⟩
  have HZ2 := Lib.hid (row_still hO2 HZ1.out)
  have HO2 := Lib.hid (HO1.out.trans hO2)
  clear hO2 HZ1 HO1
  go_wp2_with fail
  refine (H3.out _).mono ?_
  rintro e w3 ⟨rfl, hO3⟩
  have HZ3 := Lib.hid (row_still hO3 HZ2.out)
  have HO3 := Lib.hid (HO2.out.trans hO3)
  clear hO3 HZ2 HO2
  go_wp2_with fail
  refine (H4.out _).mono ?_
  rintro e w4 ⟨rfl, hO4⟩
  have HZ4 := Lib.hid (row_still hO4 HZ3.out)
  have HO4 := Lib.hid (HO3.out.trans hO4)
  clear hO4 HZ3 HO3 H1 H2 H3 H4 HA
  have e0 : _ = some (Value.int .i64 c) := cell_of_row _ _ 0 _ _ _ HZ4.out
  have e1 : _ = some (Value.int .i64 z) := cell_of_row _ _ 1 _ _ _ HZ4.out
  have HKS := Lib.hid (show ∀ W, Only (fun _ => False) w4 W → W.cell? ⟨blk, 0, none⟩ = some (.int .i64 c) ∧ W.cell? ⟨blk, 1, none⟩ = some (.int .i64 z) ∧ Only (fun _ => False) w4 W from fun W h => ⟨h.cell e0 id, h.cell e1 id, h⟩)
  have HSD := Lib.hid (show ∀ base pw W, (W.cell? ⟨blk, 0, none⟩ = some (.int .i64 c) ∧ W.cell? ⟨blk, 1, none⟩ = some (.int .i64 z) ∧ Only (fun _ => False) w4 W) →
      Calls Tryz.prog 99 #[.int .i64 base, .int .i64 pw, .pointer (some ⟨blk, 0, none⟩)] W (fun e wT => e = .returned (.int .i64 (sideZ base pw c z)) ∧ (wT.cell? ⟨blk, 0, none⟩ = some (.int .i64 c) ∧ wT.cell? ⟨blk, 1, none⟩ = some (.int .i64 z) ∧ Only (fun _ => False) w4 wT)) from fun base pw W h => (HS.out base pw blk W h.1 h.2.1).mono fun _ _ k => ⟨k.1, HKS.out _ (h.2.2.trans k.2)⟩)
  have HES := Lib.hid (show ∀ W, (W.cell? ⟨blk, 0, none⟩ = some (.int .i64 c) ∧ W.cell? ⟨blk, 1, none⟩ = some (.int .i64 z) ∧ Only (fun _ => False) w4 W) →
      Calls Tryz.prog 70 #[.string ⟨#[101, 113, 117, 97, 108]⟩, .slice (some ⟨W.heap.size, 0, none⟩) 6 6] (W.alloc (.cells #[.int .i64 g, .int .i64 a, .int .i64 h, .int .i64 b, .int .i64 (sideZ g a c z), .int .i64 (sideZ h b c z)] 3)) (fun e wT => e = .returned (.int .i64 (wscZ wEq ns)) ∧ (wT.cell? ⟨blk, 0, none⟩ = some (.int .i64 c) ∧ wT.cell? ⟨blk, 1, none⟩ = some (.int .i64 z) ∧ Only (fun _ => False) w4 wT)) from fun W hS => by
    have hP := pts_lit W [g, a, h, b, sideZ g a c z, sideZ h b c z] 3 (by show 6 ≤ _; decide)
    have hA5 := (HO4.out.trans hS.2.2).alloc (.cells (irow [g, a, h, b, sideZ g a c z, sideZ h b c z]).toArray 3)
    have := escalar_any wEq _ _ _ _ hP (by rw [← HNE.out]; exact HN.out) (by show 6 ≤ _; decide) (by show 2 ≤ 6; decide) (by decide) (HG.out.only hA5)
    rw [HNE.out]
    exact Calls.mono this fun _ _ k => ⟨k.1, HKS.out _ ((hS.2.2.alloc _).trans k.2)⟩)
  clear HS HN HNE HZ4
  go_wp2_with fail
  obtain ⟨m, hm⟩ : ∃ m, wscZ wEq ns = m := ⟨_, rfl⟩
  rw [hm] at HES
  have HMM := Lib.hid hm
  clear hm
  go_region_held3 (fun w' => w'.cell? ⟨blk, 0, none⟩ = some (.int .i64 c) ∧ w'.cell? ⟨blk, 1, none⟩ = some (.int .i64 z) ∧ Only (fun _ => False) w4 w')
    (first
      | with_reducible exact HKS.out _ ((Only.refl _ w4).drew)
      | with_reducible exact hS1
      | with_reducible exact hS2
      | exact HKS.out _ (hS1.2.2.alloc _))
    (first
      | (go_at_call 99; with_reducible refine (HSD.out _ _ _ (by assumption)).mono ?_; rintro e wK ⟨rfl, hS1⟩)
      | (go_at_call 70; with_reducible refine (HES.out _ hS1).mono ?_; rintro e wN ⟨rfl, hS2⟩))
  clear HES HSD HKS
  go_wp2_with fail
  go_ret
  exact ⟨by rw [HMM.out]; rfl, HO4.out.trans hS2.2.2⟩
theorem verify_any (g a h b c z : Int) (w : World) (hG : Glob w) :
    Calls Tryz.prog 79 #[.int .i64 g, .int .i64 a, .int .i64 h, .int .i64 b, .agg #[.int .i64 c, .int .i64 z]] w fun e w' => e = .returned (.bool (verB g a h b c z)) ∧ Only (fun _ => False) w w' := by
  by_cases hm : (memB g && memB a && memB h && memB b) = true
  · have hm2 := hm
    simp only [Bool.and_eq_true] at hm2
    obtain ⟨⟨⟨hg, ha⟩, hh⟩, hb⟩ := hm2
    cases hr : rngB c z
    · have e : verB g a h b c z = false := by unfold verB; rw [hr]; simp
      rw [e]
      exact verify_no2 g a h b c z w hg ha hh hb hr
    · have e : verB g a h b c z = (c == wscZ wEq (vNums g a h b c z)) := by unfold verB; rw [hr, hm]; simp
      rw [e]
      exact verify_yes g a h b c z w hg ha hh hb hr hG
  · have hm' : (memB g && memB a && memB h && memB b) = false := by simpa using hm
    have e : verB g a h b c z = false := by unfold verB; rw [hm']; rfl
    rw [e]
    exact verify_no1 g a h b c z w hm'
end Go.Proofs.YtlhfgbkonmgahaaGreatDoor

namespace Go.Proofs.YtlhfgbkonmgahaaGreatDoor
open Go.RowKit

theorem pf_one (x y : Int) : (#[Value.int .i64 x, .int .i64 y] : Array Value).all (·.oneCell') = true := by simp [Value.oneCell']
def pfK (x g h : Int) : Int := wscZ wNo [x, g, h]
def pfNums (x g h : Int) : List Int := [g, powM g x 2305843009213691579, h, powM h x 2305843009213691579, powM g (pfK x g h) 2305843009213691579, powM h (pfK x g h) 2305843009213691579]
def pfC (x g h : Int) : Int := wscZ wEq (pfNums x g h)
def pfZ (x g h : Int) : Int := (pfK x g h + pfC x g h * x % 1152921504606845789) % 1152921504606845789
theorem wscZ_bd (word : ByteArray) (zs : List Int) : 0 ≤ wscZ word zs ∧ wscZ word zs < 1152921504606845789 := scalarZ_bd _
theorem pfA_nats {x g h : Int} (hx : 0 ≤ x ∧ x < 1152921504606845789) (hg : memB g = true) (hh : memB h = true) : Nats [x, g, h] := by
  have := memB_bd hg
  have := memB_bd hh
  intro y hy
  simp only [List.mem_cons, List.not_mem_nil, or_false] at hy
  rcases hy with rfl | rfl | rfl <;> omega
theorem pfB_nats {x g h : Int} (hg : memB g = true) (hh : memB h = true) : Nats (pfNums x g h) := by
  have := memB_bd hg
  have := memB_bd hh
  have := powM_bd g x 2305843009213691579 (by decide)
  have := powM_bd h x 2305843009213691579 (by decide)
  have := powM_bd g (pfK x g h) 2305843009213691579 (by decide)
  have := powM_bd h (pfK x g h) 2305843009213691579 (by decide)
  intro y hy
  simp only [pfNums, List.mem_cons, List.not_mem_nil, or_false] at hy
  rcases hy with rfl | rfl | rfl | rfl | rfl | rfl <;> omega

set_option maxRecDepth 100000 in
set_option maxHeartbeats 1000000 in
theorem powers2_any (b7 b8 : Nat) (base x k : Int) (w : World) (e0 : w.cell? ⟨b7, 0, none⟩ = some (.int .i64 x)) (e1 : w.cell? ⟨b8, 0, none⟩ = some (.int .i64 k)) (hx : 0 ≤ x ∧ x < 1152921504606845789) (hk : 0 ≤ k ∧ k < 1152921504606845789) :
    Calls Tryz.prog 71 #[.int .i64 base, .pointer (some ⟨b7, 0, none⟩), .pointer (some ⟨b8, 0, none⟩)] w fun e w' => e = .returned (.tuple #[.int .i64 (powM base x 2305843009213691579), .int .i64 (powM base k 2305843009213691579)]) ∧ Only (fun _ => False) w w' := by
  have HP1 := Lib.hid (fun w => pow_any base x 2305843009213691579 w (by decide) (by decide) hx.1 (by omega))
  have HP2 := Lib.hid (fun w => pow_any base k 2305843009213691579 w (by decide) (by decide) hk.1 (by omega))
  generalize powM base x 2305843009213691579 = p1 at *
  generalize powM base k 2305843009213691579 = p2 at *
  have y0 := fun (d : Nat) (os : Array Obj) => cell_regrown e0 d os
  have y1 := fun (d : Nat) (os : Array Obj) => cell_regrown e1 d os
  clear e0 e1
  go_enter Tryz.func71, Tryz.ntmps71
  go_wp2_with fail
  refine wp_region_quiet_below (by kernel_rfl) (by kernel_rfl) ?_
  repeat (go_big_quiet_step (fail))
  go_big_quiet_step ((go_at_call 20; exact Calls.regrown_of ((HP1.out _).mono fun _ _ h => ⟨h.1, by rw [h.2]; exact (Below.refl _ _).alloc (Nat.le_refl _) _⟩)))
  repeat (go_big_quiet_step (fail))
  go_big_quiet_step ((go_at_call 20; exact Calls.regrown_of ((HP2.out _).mono fun _ _ h => ⟨h.1, by rw [h.2]; exact (Below.refl _ _).alloc (Nat.le_refl _) _⟩)))
  repeat (go_big_quiet_step (fail))
  refine wpQuiet_nil ?_
  intro w2 hw'
  obtain ⟨pq, hw''⟩ := hw'
  have HO := Lib.hid (Only.ofBelow (below_regrown w pq.d pq.os) (fun _ => False))
  rw [← hw''] at HO
  clear hw'' y0 y1
  go_wp2
  go_ret2
  exact ⟨rfl, HO.out⟩

set_option maxRecDepth 100000 in
set_option maxHeartbeats 4000000 in
theorem prove_yes (secret g h : Int) (w : World) (hg : memB g = true) (hh : memB h = true) (hG : Glob w) :
    Calls Tryz.prog 37 #[.int .i64 secret, .int .i64 g, .int .i64 h] w fun e w' => e = .returned (.agg #[.int .i64 (pfC (secret % 1152921504606845789) g h), .int .i64 (pfZ (secret % 1152921504606845789) g h)]) ∧ Only (fun _ => False) w w' := by
  have HG := Lib.hid hG
  have HA := Lib.hid ((Only.refl (fun _ => False) w).alloc (.cells #[.int .i64 0, .int .i64 0] 28))
  have HZ := Lib.hid (heap_alloc_last w (.cells #[.int .i64 0, .int .i64 0] 28))
  have H1 := Lib.hid (fun w => member_is g _ w hg)
  have H2 := Lib.hid (fun w => member_is h _ w hh)
  have hx := emod_self_lt secret 1152921504606845789 (by decide)
  have HADD := Lib.hid (fun w => add_any secret 0 1152921504606845789 w (by decide) (by decide))
  rw [Int.add_zero] at HADD
  generalize secret % 1152921504606845789 = x at *
  have hk := wscZ_bd wNo [x, g, h]
  have HNA := Lib.hid (pfA_nats hx hg hh)
  have HNB := Lib.hid (pfB_nats (x := x) hg hh)
  have HKE := Lib.hid (show pfK x g h = wscZ wNo [x, g, h] from rfl)
  have HCE := Lib.hid (show pfC x g h = wscZ wEq (pfNums x g h) from rfl)
  have HZE := Lib.hid (show pfZ x g h = (pfK x g h + pfC x g h * x % 1152921504606845789) % 1152921504606845789 from rfl)
  have HNE := Lib.hid (show pfNums x g h = [g, powM g x 2305843009213691579, h, powM h x 2305843009213691579, powM g (pfK x g h) 2305843009213691579, powM h (pfK x g h) 2305843009213691579] from rfl)
  rw [← HKE.out] at hk
  have HPW := Lib.hid (fun b7 b8 base w e0 e1 => powers2_any b7 b8 base x (pfK x g h) w e0 e1 hx hk)
  have HSA := Lib.hid (show ∀ W, Only (fun _ => False) w W → Calls Tryz.prog 70 #[.string ⟨#[110, 111, 110, 99, 101]⟩, .slice (some ⟨W.heap.size, 0, none⟩) 3 3] (W.alloc (.cells #[.int .i64 x, .int .i64 g, .int .i64 h] 3)) (fun e wT => e = .returned (.int .i64 (pfK x g h)) ∧ Only (fun _ => False) (W.alloc (.cells #[.int .i64 x, .int .i64 g, .int .i64 h] 3)) wT) from fun W hW => by
    have hP := pts_lit W [x, g, h] 3 (by show 3 ≤ _; decide)
    exact escalar_any wNo _ _ _ _ hP HNA.out (by show 3 ≤ _; decide) (by show 2 ≤ 3; decide) (by decide) (HG.out.only (hW.alloc _)))
  have HSB := Lib.hid (show ∀ W, Only (fun _ => False) w W → Calls Tryz.prog 70 #[.string ⟨#[101, 113, 117, 97, 108]⟩, .slice (some ⟨W.heap.size, 0, none⟩) 6 6] (W.alloc (.cells #[.int .i64 g, .int .i64 (powM g x 2305843009213691579), .int .i64 h, .int .i64 (powM h x 2305843009213691579), .int .i64 (powM g (pfK x g h) 2305843009213691579), .int .i64 (powM h (pfK x g h) 2305843009213691579)] 3)) (fun e wT => e = .returned (.int .i64 (pfC x g h)) ∧ Only (fun _ => False) (W.alloc (.cells #[.int .i64 g, .int .i64 (powM g x 2305843009213691579), .int .i64 h, .int .i64 (powM h x 2305843009213691579), .int .i64 (powM g (pfK x g h) 2305843009213691579), .int .i64 (powM h (pfK x g h) 2305843009213691579)] 3)) wT) from fun W hW => by
    have hP := pts_lit W (pfNums x g h) 3 (by show 6 ≤ _; decide)
    exact escalar_any wEq _ _ _ _ hP HNB.out (by show 6 ≤ _; decide) (by show 2 ≤ 6; decide) (by decide) (HG.out.only (hW.alloc _)))
  clear HNA HNB HKE HCE HNE hg hh hG
  generalize pfK x g h = k at *
  generalize pfC x g h = c at *
  generalize pfZ x g h = z at *
  go_enter Tryz.func37, Tryz.ntmps37
  go_wp2_with fail
  generalize hblk : w.heap.size = blk at *
  generalize w.alloc (.cells #[.int .i64 0, .int .i64 0] 28) = w0 at *
  refine (H1.out _).mono ?_
  rintro e w1 ⟨rfl, hO1⟩
  have HZ1 := Lib.hid (row_still hO1 HZ.out)
  have HO1 := Lib.hid (HA.out.trans hO1)
  clear hO1 HZ
  go_wp2_with fail
  refine (H2.out _).mono ?_
  rintro e w2 ⟨rfl, hO2⟩
  have HZ2 := Lib.hid (row_still hO2 HZ1.out)
  have HO2 := Lib.hid (HO1.out.trans hO2)
  clear hO2 HZ1 HO1 HA H1 H2
  go_wp2_with fail
  refine (HADD.out _).mono ?_
  rintro e w2' ⟨rfl, rfl⟩
  go_wp2_with fail
  have hsa := HSA.out (w2.alloc (.cells #[.int .i64 x] 3)) (HO2.out.alloc _)
  rw [World.size_alloc] at hsa
  refine hsa.mono ?_
  rintro e w3 ⟨rfl, hO3⟩
  have HX3 := Lib.hid (row_still hO3 ((Below.heap_alloc (w2.alloc (.cells #[.int .i64 x] 3)) (.cells #[.int .i64 x, .int .i64 g, .int .i64 h] 3) w2.heap.size (by simp)).trans (heap_alloc_last w2 _)))
  have HZ3 := Lib.hid (row_still (((((Only.refl (fun _ => False) w2).alloc _).alloc _).trans hO3)) HZ2.out)
  have HO3 := Lib.hid (((HO2.out.alloc _).alloc _).trans hO3)
  clear hsa hO3 HSA HADD
  generalize w2.heap.size = b7 at *
  have HX4 := Lib.hid ((Below.heap_alloc w3 (.cells #[.int .i64 k] 3) b7 (Array.getElem?_eq_some_iff.1 HX3.out).1).trans HX3.out)
  have HZ4 := Lib.hid ((Below.heap_alloc w3 (.cells #[.int .i64 k] 3) blk (Array.getElem?_eq_some_iff.1 HZ3.out).1).trans HZ3.out)
  have HK4 := Lib.hid (heap_alloc_last w3 (.cells #[.int .i64 k] 3))
  have HO4 := Lib.hid (HO3.out.alloc (.cells #[.int .i64 k] 3))
  go_wp2_with fail
  generalize w3.heap.size = b8 at *
  generalize w3.alloc (.cells #[.int .i64 k] 3) = w4 at *
  have e7 : _ = some (Value.int .i64 x) := cell_of_row _ _ 0 _ _ _ HX4.out
  have e8 : _ = some (Value.int .i64 k) := cell_of_row _ _ 0 _ _ _ HK4.out
  refine (HPW.out b7 b8 g w4 e7 e8).mono ?_
  rintro e w5 ⟨rfl, hO5⟩
  have HX5 := Lib.hid (row_still hO5 HX4.out)
  have HZ5 := Lib.hid (row_still hO5 HZ4.out)
  have HK5 := Lib.hid (row_still hO5 HK4.out)
  have HO5 := Lib.hid (HO4.out.trans hO5)
  clear hO5 e7 e8 HX4 HZ4 HK4 HO4
  go_wp2_with fail
  have e7 : _ = some (Value.int .i64 x) := cell_of_row _ _ 0 _ _ _ HX5.out
  have e8 : _ = some (Value.int .i64 k) := cell_of_row _ _ 0 _ _ _ HK5.out
  refine (HPW.out b7 b8 h w5 e7 e8).mono ?_
  rintro e w6 ⟨rfl, hO6⟩
  have HX6 := Lib.hid (row_still hO6 HX5.out)
  have HZ6 := Lib.hid (row_still hO6 HZ5.out)
  have HK6 := Lib.hid (row_still hO6 HK5.out)
  have HO6 := Lib.hid (HO5.out.trans hO6)
  clear hO6 e7 e8 HX5 HZ5 HK5 HO5
  go_wp2_with fail
  refine (HSB.out w6 HO6.out).mono ?_
  rintro e w7 ⟨rfl, hO7⟩
  have hO7b := ((Only.refl (fun _ => False) w6).alloc _).trans hO7
  have HZ7 := Lib.hid (row_still hO7b HZ6.out)
  have e7 : _ = some (Value.int .i64 x) := cell_of_row _ _ 0 _ _ _ (row_still hO7b HX6.out)
  have e8 : _ = some (Value.int .i64 k) := cell_of_row _ _ 0 _ _ _ (row_still hO7b HK6.out)
  have HO7 := Lib.hid (HO6.out.trans hO7b)
  clear hO7 hO7b HX6 HZ6 HK6 HO6 HSB HPW
  go_wp2_with fail
  have y0 := fun (d : Nat) (os : Array Obj) => cell_regrown e7 d os
  have y1 := fun (d : Nat) (os : Array Obj) => cell_regrown e8 d os
  clear e7 e8
  have HM := Lib.hid (fun w => mul_any c x 1152921504606845789 w (by decide) (by decide))
  have HAD := Lib.hid (fun w => add_any k (c * x % 1152921504606845789) 1152921504606845789 w (by decide) (by decide))
  rw [← HZE.out] at HAD
  generalize c * x % 1152921504606845789 = cx at *
  refine wp_region_below_split2 6 (by kernel_rfl) (by kernel_rfl) (by kernel_rfl) ?_
  simp only [List.take_succ_cons, List.take_zero, List.drop_succ_cons, List.drop_zero]
  repeat (go_big_quiet_step (fail))
  go_big_quiet_step ((go_at_call 23; exact Calls.regrown_of ((HM.out _).mono fun _ _ h => ⟨h.1, by rw [← h.2]; exact Below.refl _ _⟩)))
  go_big_quiet_step ((go_at_call 69; exact Calls.regrown_of ((HAD.out _).mono fun _ _ h => ⟨h.1, by rw [← h.2]; exact Below.refl _ _⟩)))
  refine wpQuiet_nil ?_
  intro w8 hw'
  obtain ⟨pq, hw''⟩ := hw'
  have HO78 := Lib.hid (Only.ofBelow (below_regrown w7 pq.d pq.os) (fun _ => False))
  rw [← hw''] at HO78
  have HZ8 := Lib.hid (row_still HO78.out HZ7.out)
  have HO8 := Lib.hid (HO7.out.trans HO78.out)
  clear hw'' y0 y1 HO78 HZ7 HO7
  go_wp2_with (first | (refine wpList_store_row rfl 28 _ _ rfl blk #[.int .i64 c, .int .i64 z] rfl rfl 28 _ HZ8.out Tryz.infoPf rfl (pf_one _ _) ?_))
  exact bodyPost_ret (v := .agg #[.int .i64 c, .int .i64 z]) (results_cell_row rfl _ _ blk 28 #[.int .i64 c, .int .i64 z] (0, 0) _ rfl (setRow_heap _ _ _ _ _ _ HZ8.out) Tryz.underlying28 rfl Tryz.infoPf) rfl ⟨rfl, HO8.out.setRow (Nat.le_of_eq hblk) _⟩
end Go.Proofs.YtlhfgbkonmgahaaGreatDoor

namespace Go.Proofs.YtlhfgbkonmgahaaGreatDoor
open Go.RowKit

theorem pow_redQ {b n : Int} (hb : memB b = true) (h0 : 0 ≤ n) (h1 : n ≤ 1152921504606845789) : powM b n 2305843009213691579 = powM b (n % 1152921504606845789) 2305843009213691579 := by
  obtain ⟨r0, r1⟩ := emod_self_lt n 1152921504606845789 (by decide)
  rw [powM_eq b n _ (by decide) h0 (by omega), powM_eq b (n % 1152921504606845789) _ (by decide) r0 (by omega)]
  have := ((memB_iff b).1 hb).2.2.exp n.toNat
  have e : n.toNat % 1152921504606845789 = (n % 1152921504606845789).toNat := by omega
  rw [e] at this
  exact this.emod
theorem side_made {b x k c : Int} (hb : memB b = true) (hx : 0 ≤ x ∧ x < 1152921504606845789) (hk : 0 ≤ k ∧ k < 1152921504606845789) (hc : 0 ≤ c ∧ c < 1152921504606845789) :
    sideZ b (powM b x 2305843009213691579) c ((k + c * x % 1152921504606845789) % 1152921504606845789) = powM b k 2305843009213691579 := by
  have hB : memB (powM b x 2305843009213691579) = true := mem_pow hb hx.1 (by omega)
  obtain ⟨r0, r1⟩ := emod_self_lt (1152921504606845789 - c) 1152921504606845789 (by decide)
  obtain ⟨z0, z1⟩ := emod_self_lt (k + c * x % 1152921504606845789) 1152921504606845789 (by decide)
  obtain ⟨s0, s1⟩ := emod_self_lt (x * ((1152921504606845789 - c) % 1152921504606845789)) 1152921504606845789 (by decide)
  unfold sideZ
  rw [pow_redQ hB (by omega) (by omega), powPowQ hb hx.1 hx.2 r0 r1, powAddQ hb z0 z1 s0 s1]
  congr 1
  rw [mul_res, ← Int.add_emod]
  have e1 : (k + c * x % 1152921504606845789) + x * (1152921504606845789 - c) = (k + x * (1152921504606845789 - c)) + c * x % 1152921504606845789 := by omega
  rw [e1, Int.add_emod, Int.emod_emod_of_dvd _ (Int.dvd_refl _), ← Int.add_emod, Int.mul_sub, Int.mul_comm c x]
  have e2 : k + (x * 1152921504606845789 - x * c) + x * c = k + x * 1152921504606845789 := by omega
  rw [e2, Int.add_mul_emod_self_right, Int.emod_eq_of_lt hk.1 hk.2]
/-- A proof that was made is accepted. -/
theorem ver_made {g h x : Int} (hg : memB g = true) (hh : memB h = true) (hx : 0 ≤ x ∧ x < 1152921504606845789) :
    verB g (powM g x 2305843009213691579) h (powM h x 2305843009213691579) (pfC x g h) (pfZ x g h) = true := by
  have hk : 0 ≤ pfK x g h ∧ pfK x g h < 1152921504606845789 := wscZ_bd _ _
  have hc : 0 ≤ pfC x g h ∧ pfC x g h < 1152921504606845789 := wscZ_bd _ _
  obtain ⟨z0, z1⟩ := emod_self_lt (pfK x g h + pfC x g h * x % 1152921504606845789) 1152921504606845789 (by decide)
  have hG : memB (powM g x 2305843009213691579) = true := mem_pow hg hx.1 (by omega)
  have hH : memB (powM h x 2305843009213691579) = true := mem_pow hh hx.1 (by omega)
  have e1 : sideZ g (powM g x 2305843009213691579) (pfC x g h) (pfZ x g h) = powM g (pfK x g h) 2305843009213691579 := side_made hg hx hk hc
  have e2 : sideZ h (powM h x 2305843009213691579) (pfC x g h) (pfZ x g h) = powM h (pfK x g h) 2305843009213691579 := side_made hh hx hk hc
  have hr : rngB (pfC x g h) (pfZ x g h) = true := by
    have : 0 ≤ pfZ x g h ∧ pfZ x g h < 1152921504606845789 := ⟨z0, z1⟩
    unfold rngB
    rw [decide_eq_false (by omega), decide_eq_false (by omega), decide_eq_false (by omega), decide_eq_false (by omega)]
    rfl
  unfold verB
  rw [hg, hG, hh, hH, hr]
  simp only [Bool.and_self, Bool.true_and, beq_iff_eq]
  unfold vNums
  rw [e1, e2]
  rfl
end Go.Proofs.YtlhfgbkonmgahaaGreatDoor

namespace Go.Proofs.YtlhfgbkonmgahaaGreatDoor
open Go.RowKit

theorem join_snoc (sep x : List UInt8) : ∀ l : List (List UInt8), l ≠ [] → Lib.join (l ++ [x]) sep = Lib.join l sep ++ sep ++ x
  | [], h => absurd rfl h
  | y :: r, _ => by
    rw [List.cons_append, Lib.join_cons, Lib.join_cons]
    simp [Lib.joinTail, List.append_assoc]
theorem digsL_take (zs : List Int) (k : Nat) (h : k < zs.length) : (digsL (zs.take (k + 1))).map (·.data.toList) = (digsL (zs.take k)).map (·.data.toList) ++ [(decB (ptAt zs k).toNat).data.toList] := by
  have e : zs.take (k + 1) = zs.take k ++ [ptAt zs k] := by rw [List.take_add_one]; simp [ptAt, List.getD, h]
  rw [e]
  simp only [digsL, List.map_append, List.map_cons, List.map_nil]
theorem joinN_first (zs : List Int) (h : 0 < zs.length) : joinN (zs.take (0 + 1)) = decB (ptAt zs 0).toNat := by
  unfold joinN joinL
  rw [digsL_take zs 0 h]
  apply ByteArray.ext
  simp [digsL, Lib.join_one]
theorem joinN_next (zs : List Int) (k : Nat) (h : k < zs.length) (hk : 0 < k) : joinN (zs.take (k + 1)) = joinN (zs.take k) ++ (⟨#[47]⟩ : ByteArray) ++ decB (ptAt zs k).toNat := by
  unfold joinN joinL
  rw [digsL_take zs k h, join_snoc]
  · apply ByteArray.ext
    simp
  · intro e
    have := congrArg List.length e
    simp only [digsL, List.length_map, List.length_take, List.length_nil] at this
    omega
theorem Nats.take {zs : List Int} (h : Nats zs) (k : Nat) : Nats (zs.take k) := fun z hz => h z (List.mem_of_mem_take hz)
/-- decimal, from 0 on. -/
theorem rdec6_any (n : Nat) (w : World) (hn : n < 9223372036854775808) :
    Calls Tryz.prog 84 #[.int .i64 n] w fun e w' => e = .returned (.string (decB n)) ∧ Only (fun _ => False) w w' := by
  have H1 := Lib.hid (rof_any n w hn)
  have H2 := Lib.hid (fun w => rtext1_any n w hn)
  generalize natB n = bn at *
  go_enter Tryz.func84, Tryz.ntmps84
  go_wp2_with fail
  refine H1.out.mono ?_
  rintro e w1 ⟨rfl, hO1⟩
  have HO1 := Lib.hid hO1
  clear hO1 H1
  go_wp2_with fail
  refine (H2.out _).mono ?_
  rintro e w2 ⟨rfl, hO2⟩
  have HO2 := Lib.hid (HO1.out.trans hO2)
  clear hO2
  go_wp2
  go_ret
  exact ⟨rfl, HO2.out⟩
set_option maxHeartbeats 2000000 in
set_option maxRecDepth 100000 in
theorem rjoined_any (a : Option Addr) (c : Nat) (zs : List Int) (w : World) (hI : PtsAt w.heap.size w (.slice a zs.length c) zs) (hz : Nats zs) (hlen : zs.length ≤ 100) :
    Calls Tryz.prog 58 #[.slice a zs.length c] w fun e w' => e = .returned (.string (joinN zs)) ∧ Only (fun _ => False) w w' := by
  have HI := Lib.hid hI
  have HZ := Lib.hid hz
  have HSZ := Lib.hid (fun k => show (joinN (zs.take k)).size ≤ 2200 by
    have := joinN_size _ (hz.take k)
    have : (zs.take k).length ≤ 100 := by rw [List.length_take]; omega
    omega)
  clear hI hz
  go_enter Tryz.func58, Tryz.ntmps58
  go_wp2_with fail
  go_loopw [3, 4] (fun vs vi wr => ∃ k : Nat, vi = .int .i64 k ∧ vs = .string (joinN (zs.take k)) ∧ k ≤ zs.length ∧ Only (fun _ => False) w wr) (fun _ vi _ => zs.length - (intOf vi).toNat)
  case atStart => exact ⟨0, rfl, rfl, Nat.zero_le _, Only.refl _ _⟩
  case round =>
    obtain ⟨k, rfl, rfl, hk, hO⟩ := hrel
    have HO := Lib.hid hO
    clear hO
    by_cases hlt : k < zs.length
    · obtain ⟨b, off, rfl, hb, hc1, hc2, hcell⟩ := (HI.out.only HO.out).cellAt hlt
      obtain ⟨z0, z1⟩ := HZ.out.at hlt
      have HIT := Lib.hid (fun w => rdec6_any (ptAt zs k).toNat w (by omega))
      have hds := decB_size (n := (ptAt zs k).toNat) (by omega)
      have hs := HSZ.out k
      obtain ⟨n, hn⟩ := Int.eq_ofNat_of_zero_le z0
      by_cases h0 : 0 < k
      · have HN := Lib.hid (joinN_next zs k hlt h0)
        rw [hn] at hcell HIT HN hds
        rw [Int.toNat_natCast] at HIT HN hds
        clear hn z0 z1
        generalize hJ : joinN (zs.take k) = J at *
        generalize decB n = D at *
        have hs2 : (J ++ (⟨#[47]⟩ : ByteArray)).size ≤ 2201 := by rw [ByteArray.size_append]; show _ + 1 ≤ _; omega
        go_wp2_with fail
        refine (HIT.out _).mono ?_
        rintro e w2 ⟨rfl, hO2⟩
        have HO2 := Lib.hid (HO.out.trans hO2)
        clear hO2 hcell HIT
        go_wp2
        exact ⟨⟨k + 1, by go_num, by rw [HN.out], by omega, HO2.out⟩, by simp [intOf]; omega⟩
      · obtain rfl : k = 0 := by omega
        have HN := Lib.hid (joinN_first zs hlt)
        rw [hn] at hcell HIT HN hds
        rw [Int.toNat_natCast] at HIT HN hds
        clear hn z0 z1
        have hJ : joinN (zs.take 0) = ⟨#[]⟩ := rfl
        simp only [Nat.add_zero] at hcell
        rw [hJ] at *
        generalize decB n = D at *
        go_wp2_with fail
        refine (HIT.out _).mono ?_
        rintro e w2 ⟨rfl, hO2⟩
        have HO2 := Lib.hid (HO.out.trans hO2)
        clear hO2 hcell HIT
        go_wp2
        exact ⟨⟨0 + 1, by go_num, by rw [HN.out]; exact congrArg _ (ByteArray.ext (by simp)), by omega, HO2.out⟩, by simp [intOf]; omega⟩
    · obtain rfl : k = zs.length := by omega
      rw [List.take_length] at *
      go_wp2
      go_ret
      exact ⟨rfl, HO.out⟩
set_option maxHeartbeats 1000000 in
theorem rchal_any (a : Option Addr) (c : Nat) (zs : List Int) (w : World) (hI : PtsAt w.heap.size w (.slice a zs.length c) zs) (hz : Nats zs) (hlen : zs.length ≤ 100) :
    Calls Tryz.prog 25 #[.slice a zs.length c] w fun e w' => e = .returned (.int .i64 (wscZ wEq zs)) ∧ Only (fun _ => False) w w' := by
  have HJ := Lib.hid (rjoined_any a c zs w hI hz hlen)
  have hjs : (joinN zs).size ≤ 2200 := by have := joinN_size zs hz; omega
  have HS := Lib.hid (fun w => rscalar_any ((⟨#[101, 113, 117, 97, 108, 47]⟩ : ByteArray) ++ joinN zs) w (by rw [ByteArray.size_append]; show 6 + _ ≤ _; omega))
  have HW := Lib.hid (show wscZ wEq zs = scalarZ ((⟨#[101, 113, 117, 97, 108, 47]⟩ : ByteArray) ++ joinN zs) from rfl)
  clear hI hz
  rw [HW.out]
  generalize joinN zs = J at *
  go_enter Tryz.func25, Tryz.ntmps25
  go_wp2_with fail
  refine HJ.out.mono ?_
  rintro e w1 ⟨rfl, hO1⟩
  have HO1 := Lib.hid hO1
  clear hO1 HJ
  go_wp2_with fail
  refine (HS.out _).mono ?_
  rintro e w2 ⟨rfl, hO2⟩
  have HO2 := Lib.hid (HO1.out.trans hO2)
  clear hO2
  go_wp2
  go_ret
  exact ⟨rfl, HO2.out⟩
set_option maxHeartbeats 1000000 in
theorem rpower_any (a n : Int) (w : World) (hn : 0 ≤ n) (hn2 : n ≤ 9223372036854775807) :
    Calls Tryz.prog 97 #[.int .i64 a, .int .i64 n] w fun e w' => e = .returned (.int .i64 (powM a n 2305843009213691579)) ∧ w = w' := by
  have HP := Lib.hid (fun w => rpow_any a n 2305843009213691579 w (by decide) (by decide) hn hn2)
  generalize powM a n 2305843009213691579 = p at *
  go_enter Tryz.func97, Tryz.ntmps97
  go_wp2_with fail
  refine (HP.out _).mono ?_
  rintro e w1 ⟨rfl, rfl⟩
  go_wp2
  go_ret
  exact ⟨rfl, rfl⟩
set_option maxRecDepth 100000 in
set_option maxHeartbeats 1000000 in
theorem rside_any (base pw c z : Int) (w : World) (hc : 0 ≤ c ∧ c ≤ 1152921504606845788) (hz : 0 ≤ z ∧ z ≤ 1152921504606845788) :
    Calls Tryz.prog 81 #[.int .i64 base, .int .i64 pw, .agg #[.int .i64 c, .int .i64 z]] w fun e w' => e = .returned (.int .i64 (sideZ base pw c z)) ∧ Only (fun _ => False) w w' := by
  have HA := Lib.hid ((Only.refl (fun _ => False) w).alloc (.cells #[.int .i64 c, .int .i64 z] 28))
  have HZ := heap_alloc_last w (.cells #[.int .i64 c, .int .i64 z] 28)
  have e0 : _ = some (Value.int .i64 c) := cell_of_row _ _ 0 _ _ _ HZ
  have e1 : _ = some (Value.int .i64 z) := cell_of_row _ _ 1 _ _ _ HZ
  have HP1 := Lib.hid (fun w => rpower_any base z w hz.1 (by omega))
  have HP2 := Lib.hid (fun w => rpower_any pw (1152921504606845789 - c) w (by omega) (by omega))
  have HV := Lib.hid (show sideZ base pw c z = powM base z 2305843009213691579 * powM pw (1152921504606845789 - c) 2305843009213691579 % 2305843009213691579 from rfl)
  have hs : wrap64 (1152921504606845789 - c) = 1152921504606845789 - c := by unfold wrap64; omega
  generalize powM base z 2305843009213691579 = p1 at *
  generalize powM pw (1152921504606845789 - c) 2305843009213691579 = p2 at *
  have HM := Lib.hid (fun w => rmul_any p1 p2 2305843009213691579 w (by decide) (by decide))
  rw [← HV.out] at HM
  generalize sideZ base pw c z = S at *
  clear HZ
  go_enter Tryz.func81, Tryz.ntmps81
  go_wp2_with fail
  generalize hblk : w.heap.size = blk at *
  generalize w.alloc (.cells #[.int .i64 c, .int .i64 z] 28) = w1 at *
  have y0 := fun (d : Nat) (os : Array Obj) => cell_regrown e0 d os
  have y1 := fun (d : Nat) (os : Array Obj) => cell_regrown e1 d os
  clear e0 e1
  refine wp_region_quiet_below (by kernel_rfl) (by kernel_rfl) ?_
  repeat (go_big_quiet_step (fail))
  go_big_quiet_step ((go_at_call 97; exact Calls.regrown_of ((HP1.out _).mono fun _ _ h => ⟨h.1, by rw [← h.2]; exact Below.refl _ _⟩)))
  repeat (go_big_quiet_step (fail))
  go_big_quiet_step ((go_at_call 97; exact Calls.regrown_of ((HP2.out _).mono fun _ _ h => ⟨h.1, by rw [← h.2]; exact Below.refl _ _⟩)))
  go_big_quiet_step ((go_at_call 43; exact Calls.regrown_of ((HM.out _).mono fun _ _ h => ⟨h.1, by rw [← h.2]; exact Below.refl _ _⟩)))
  repeat (go_big_quiet_step (fail))
  refine wpQuiet_nil ?_
  intro w2 hw'
  obtain ⟨pq, hw''⟩ := hw'
  have HO := Lib.hid (HA.out.trans (Only.ofBelow (below_regrown w1 pq.d pq.os) (fun _ => False)))
  rw [← hw''] at HO
  clear hw'' y0 y1
  go_wp2
  go_ret
  exact ⟨rfl, HO.out⟩
end Go.Proofs.YtlhfgbkonmgahaaGreatDoor

namespace Go.Proofs.YtlhfgbkonmgahaaGreatDoor
open Go.RowKit

/-- A number in decimal. -/
def decI (n : Int) : ByteArray := ⟨(Lib.itoa n).toArray⟩
theorem decI_nat (n : Nat) : decI n = decB n := by unfold decI decB; rw [Lib.itoa_nonneg]
theorem decI_pos {z : Int} (h : 0 ≤ z) : decI z = decB z.toNat := by
  obtain ⟨n, rfl⟩ := Int.eq_ofNat_of_zero_le h
  rw [decI_nat]; rfl
theorem decI_neg {z : Int} (h : z < 0) : decI z = (⟨#[45]⟩ : ByteArray) ++ decB (-z).toNat := by
  obtain ⟨n, hn⟩ := Int.eq_ofNat_of_zero_le (show 0 ≤ -z by omega)
  obtain rfl : z = -(n : Int) := by omega
  unfold decI decB
  rw [Lib.itoa_neg n (by omega), Int.neg_neg, Int.toNat_natCast]
  apply ByteArray.ext
  simp
theorem decI_size {z : Int} (h0 : -9223372036854775808 ≤ z) (h1 : z ≤ 9223372036854775807) : (decI z).size ≤ 21 := by
  have := Lib.itoa_length_le z h0 h1
  show (Lib.itoa z).toArray.size ≤ 21
  simpa using this
theorem itoaI_any (z : Int) (w : World) (h0 : -9223372036854775808 ≤ z) (h1 : z ≤ 9223372036854775807) (hG : Glob w) :
    Calls Tryz.prog 34 #[.int .i64 z] w fun e w' => e = .returned (.string (decI z)) ∧ Only (fun _ => False) w w' :=
  (Tryz.strconv_Itoa z h0 h1 w hG.pow).mono fun e w' h => by
    obtain ⟨he, k, os, hw⟩ := h
    exact ⟨he, hw ▸ only_grown w k os⟩
theorem dec_split (q r : Nat) (hq : 1 ≤ q) (hr : r < 10) : decB (10 * q + r) = decB q ++ decB r := by
  unfold decB
  rw [Lib.decDigits, dif_neg (by omega), show (10 * q + r) / 10 = q by omega, show (10 * q + r) % 10 = r by omega, Lib.decDigits_one hr]
  apply ByteArray.ext
  simp
theorem tdiv_neg10 {z : Int} (h : z < 0) : z.tdiv 10 = -((-z) / 10) ∧ z.tmod 10 = -((-z) % 10) := by
  have h1 : (-z).tdiv 10 = (-z) / 10 := Int.tdiv_eq_ediv_of_nonneg (by omega)
  have h2 : (-z).tmod 10 = (-z) % 10 := Int.tmod_eq_emod_of_nonneg (by omega)
  rw [Int.neg_tdiv] at h1
  rw [Int.neg_tmod] at h2
  omega
theorem decI_step {z : Int} (h : z ≤ -10) : decI z = decI (z.tdiv 10) ++ decB (-(z.tmod 10)).toNat := by
  obtain ⟨e1, e2⟩ := tdiv_neg10 (show z < 0 by omega)
  rw [decI_neg (by omega), decI_neg (z := z.tdiv 10) (by omega), e1, e2, Int.neg_neg, Int.neg_neg]
  obtain ⟨n, hn⟩ := Int.eq_ofNat_of_zero_le (show 0 ≤ -z by omega)
  rw [hn, Int.toNat_natCast]
  have e3 : ((n : Int) / 10).toNat = n / 10 := by omega
  have e4 : ((n : Int) % 10).toNat = n % 10 := by omega
  rw [e3, e4]
  have := dec_split (n / 10) (n % 10) (by omega) (by omega)
  rw [show 10 * (n / 10) + n % 10 = n by omega] at this
  rw [this]
  apply ByteArray.ext
  simp
theorem rofZ_any (z : Int) (w : World) (h0 : 0 ≤ z) (h1 : z ≤ 9223372036854775807) :
    Calls Tryz.prog 106 #[.int .i64 z] w fun e w' => e = .returned (.string (natB z.toNat)) ∧ Only (fun _ => False) w w' :=
  (rofI_any z w h0 h1).mono fun _ _ h => ⟨h.1, Only.ofBelow h.2 _⟩
set_option maxHeartbeats 1000000 in
theorem rdecI6_neg : ∀ (k : Nat) (z : Int) (w : World), -z ≤ k → z < 0 → -9223372036854775808 ≤ z →
    Calls Tryz.prog 84 #[.int .i64 z] w fun e w' => e = .returned (.string (decI z)) ∧ Only (fun _ => False) w w' := by
  intro k
  induction k with
  | zero => intro z w h1 h2; omega
  | succ k ih =>
    intro z w hk hz hz2
    have i1 : ¬ (0 : Int) ≤ z := by omega
    by_cases h : -10 < z
    · have HD := Lib.hid (decI_neg hz)
      obtain ⟨n, hn⟩ := Int.eq_ofNat_of_zero_le (show 0 ≤ -z by omega)
      have H1 := Lib.hid (rofZ_any (-z) w (by omega) (by omega))
      have H2 := Lib.hid (fun w => rtext1_any (-z).toNat w (by omega))
      have hs := decB_size (n := (-z).toNat) (by omega)
      clear hn ih hk
      generalize decB (-z).toNat = D at *
      generalize natB (-z).toNat = bn at *
      go_enter Tryz.func84, Tryz.ntmps84
      go_wp2_with fail
      refine H1.out.mono ?_
      rintro e w1 ⟨rfl, hO1⟩
      have HO1 := Lib.hid hO1
      clear hO1 H1
      go_wp2_with fail
      refine (H2.out _).mono ?_
      rintro e w2 ⟨rfl, hO2⟩
      have HO2 := Lib.hid (HO1.out.trans hO2)
      clear hO2
      go_wp2
      go_ret
      exact ⟨by rw [HD.out]; rfl, HO2.out⟩
    · obtain ⟨e1, e2⟩ := tdiv_neg10 hz
      have HD := Lib.hid (decI_step (z := z) (by omega))
      have HR := Lib.hid (fun w => ih (z.tdiv 10) w (by omega) (by omega) (by omega))
      have H1 := Lib.hid (fun w => rofZ_any (-(z.tmod 10)) w (by omega) (by omega))
      have H2 := Lib.hid (fun w => rtext1_any (-(z.tmod 10)).toNat w (by omega))
      have hs := decB_size (n := (-(z.tmod 10)).toNat) (by omega)
      have hs2 := decI_size (z := z.tdiv 10) (by omega) (by omega)
      have b1 : -9 ≤ z.tmod 10 := by omega
      have b2 : z.tmod 10 ≤ 0 := by omega
      have b3 : -922337203685477580 ≤ z.tdiv 10 := by omega
      have b4 : z.tdiv 10 ≤ -1 := by omega
      clear e1 e2 ih hk
      generalize decB (-(z.tmod 10)).toNat = D at *
      generalize natB (-(z.tmod 10)).toNat = bn at *
      generalize decI (z.tdiv 10) = E at *
      go_enter Tryz.func84, Tryz.ntmps84
      go_wp2_with fail
      refine (HR.out _).mono ?_
      rintro e w0 ⟨rfl, hO0⟩
      have HO0 := Lib.hid hO0
      clear hO0 HR
      go_wp2_with fail
      refine (H1.out _).mono ?_
      rintro e w1 ⟨rfl, hO1⟩
      have HO1 := Lib.hid (HO0.out.trans hO1)
      clear hO1 H1
      go_wp2_with fail
      refine (H2.out _).mono ?_
      rintro e w2 ⟨rfl, hO2⟩
      have HO2 := Lib.hid (HO1.out.trans hO2)
      clear hO2
      go_wp2
      go_ret
      exact ⟨by rw [HD.out]; rfl, HO2.out⟩
theorem rdecI6_any (z : Int) (w : World) (h0 : -9223372036854775808 ≤ z) (h1 : z ≤ 9223372036854775807) :
    Calls Tryz.prog 84 #[.int .i64 z] w fun e w' => e = .returned (.string (decI z)) ∧ Only (fun _ => False) w w' := by
  by_cases h : z < 0
  · exact rdecI6_neg 9223372036854775808 z w (by omega) h h0
  · obtain ⟨n, rfl⟩ := Int.eq_ofNat_of_zero_le (show 0 ≤ z by omega)
    rw [decI_nat]
    exact rdec6_any n w (by omega)
end Go.Proofs.YtlhfgbkonmgahaaGreatDoor

namespace Go.Proofs.YtlhfgbkonmgahaaGreatDoor
open Go.RowKit

/-- The text of a round. -/
def roundS (r : Int) : ByteArray := (⟨#[114, 111, 117, 110, 100, 47]⟩ : ByteArray) ++ decI r
def baseZ (r : Int) : Int := elemZ (roundS r)
theorem elem_memB (s : ByteArray) : memB (elemZ s) = true := by
  have h := emod_self_lt (numZ (shaL (strE ++ s))) 2305843009213691578 (by decide)
  have e : gP = 2305843009213691579 := rfl
  refine mem_of (in_square (x := elemX s) ?_)
  unfold elemX
  rw [Int.emod_eq_of_lt (by omega) (by omega)]
  omega
theorem memFour : memB 4 = true := by kernel_rfl
theorem base_mem (r : Int) : memB (baseZ r) = true := elem_memB _
theorem roundS_size {r : Int} (h0 : -9223372036854775808 ≤ r) (h1 : r ≤ 9223372036854775807) : (roundS r).size ≤ 27 := by
  unfold roundS
  rw [ByteArray.size_append]
  have := decI_size h0 h1
  show 6 + _ ≤ _
  omega
/-- A partial: X, Value, C, Z. -/
abbrev Pt4 := Int × Int × Int × Int
def inRng (x y : Int) : Bool := (decide (1 ≤ x) && decide (x ≤ 60)) && (decide (0 ≤ y) && decide (y < 1152921504606845789))
def evalV (x y r : Int) : Pt4 := if inRng x y then (x, powM (baseZ r) y 2305843009213691579, pfC y 4 (baseZ r), pfZ y 4 (baseZ r)) else (0, 0, 0, 0)
theorem inRng_parts {x y : Int} (h : inRng x y = true) : (1 ≤ x ∧ x ≤ 60) ∧ 0 ≤ y ∧ y < 1152921504606845789 := by
  unfold inRng at h
  simpa using h
/-- Is a partial accepted, for n points? -/
def acB (n : Int) (cm : List Int) (r : Int) (p : Pt4) : Bool := (decide (1 ≤ p.1) && decide (p.1 ≤ n)) && verB 4 (atZ cm p.1) (baseZ r) p.2.1 p.2.2.1 p.2.2.2
/-- One more share, if its point is new. -/
def dedS (l : List (Int × Int)) (s : Int × Int) : List (Int × Int) := if l.any (fun t => t.1 == s.1) then l else l ++ [s]
def dedL (l : List (Int × Int)) : List (Int × Int) := l.foldl dedS []
theorem dedL_snoc (l : List (Int × Int)) (s : Int × Int) : dedL (l ++ [s]) = dedS (dedL l) s := by unfold dedL; rw [List.foldl_append]; rfl
def goodL (n : Int) (cm : List Int) (r : Int) (L : List Pt4) : List Pt4 := L.filter (acB n cm r)
def badL (n : Int) (cm : List Int) (r : Int) (L : List Pt4) : List Pt4 := L.filter (fun p => !acB n cm r p)
def shrL (l : List Pt4) : List (Int × Int) := dedL (l.map fun p => (p.1, p.2.1))
theorem dedS_len (l : List (Int × Int)) (s : Int × Int) : (dedS l s).length ≤ l.length + 1 := by
  unfold dedS; split <;> simp
theorem ded_nodup : ∀ l : List (Int × Int), ((dedL l).map (·.1)).Nodup := by
  intro l
  suffices h : ∀ (l a : List (Int × Int)), (a.map (·.1)).Nodup → ((l.foldl dedS a).map (·.1)).Nodup from h l [] (by simp)
  intro l
  induction l with
  | nil => intro a h; exact h
  | cons s t ih =>
    intro a h
    rw [List.foldl_cons]
    refine ih _ ?_
    unfold dedS
    split
    · exact h
    · next hn =>
      rw [List.map_append, List.nodup_append]
      refine ⟨h, by simp, fun x hx y hy e => ?_⟩
      simp only [List.map_cons, List.map_nil, List.mem_singleton] at hy
      rw [List.mem_map] at hx
      obtain ⟨q, hq, rfl⟩ := hx
      exact hn (List.any_eq_true.2 ⟨q, hq, by simp [e, hy]⟩)
theorem ded_sub : ∀ (l : List (Int × Int)), ∀ s ∈ dedL l, s ∈ l := by
  intro l
  suffices h : ∀ (l a : List (Int × Int)), ∀ s ∈ l.foldl dedS a, s ∈ a ∨ s ∈ l from fun s hs => (h l [] s hs).elim (fun h => by cases h) id
  intro l
  induction l with
  | nil => intro a s h; exact .inl h
  | cons t r ih =>
    intro a s h
    rw [List.foldl_cons] at h
    rcases ih _ s h with h | h
    · unfold dedS at h
      split at h
      · exact .inl h
      · rw [List.mem_append, List.mem_singleton] at h
        rcases h with h | h
        · exact .inl h
        · exact .inr (by rw [h]; exact List.mem_cons_self)
    · exact .inr (List.mem_cons_of_mem _ h)
theorem ded_keep : ∀ (l a : List (Int × Int)), ∀ s ∈ a, s ∈ l.foldl dedS a := by
  intro l
  induction l with
  | nil => intro a s h; exact h
  | cons t r ih =>
    intro a s h
    rw [List.foldl_cons]
    refine ih _ s ?_
    unfold dedS
    split
    · exact h
    · exact List.mem_append_left _ h
theorem ded_has : ∀ (l a : List (Int × Int)), ∀ s ∈ l, s.1 ∈ (l.foldl dedS a).map (·.1) := by
  intro l
  induction l with
  | nil => intro a s h; cases h
  | cons t r ih =>
    intro a s h
    rw [List.foldl_cons]
    rcases List.mem_cons.1 h with rfl | h
    · unfold dedS
      split
      · next hy =>
        obtain ⟨q, hq, he⟩ := List.any_eq_true.1 hy
        rw [List.mem_map]
        exact ⟨q, ded_keep r a q hq, by simpa using he⟩
      · rw [List.mem_map]
        exact ⟨s, ded_keep r _ s (by simp), rfl⟩
    · exact ih _ s h
/-- Different points with members count all. -/
theorem cnt_all (per : Int → Bool) : ∀ (l : List (Int × Int)), (l.map (·.1)).Nodup → (∀ s ∈ l, ptB s.1 = true ∧ per s.2 = true) → cntA per l = (l.map (·.1), l.map (·.2)) := by
  intro l
  suffices h : ∀ (n : Nat) (l : List (Int × Int)), l.length = n → (l.map (·.1)).Nodup → (∀ s ∈ l, ptB s.1 = true ∧ per s.2 = true) → cntA per l = (l.map (·.1), l.map (·.2)) from h _ l rfl
  intro n
  induction n with
  | zero => intro l hl _ _; rw [List.eq_nil_of_length_eq_zero hl]; rfl
  | succ n ih =>
    intro l hl hn hp
    rcases List.eq_nil_or_concat l with rfl | ⟨t, s, rfl⟩
    · simp at hl
    · rw [List.concat_eq_append] at hl hn hp ⊢
      have ht : t.length = n := by simpa using hl
      rw [List.map_append, List.nodup_append] at hn
      rw [cntA_one, ih t ht hn.1 (fun u hu => hp u (List.mem_append_left _ hu))]
      obtain ⟨x, y⟩ := s
      have hs := hp (x, y) (by simp)
      rw [cntS_yes per _ x y hs.1 hs.2 (inTo_not _ _ _ (fun j hj e => by
        refine hn.2.2 (ptAt (t.map (·.1)) j) ?_ x (by simp) e
        unfold ptAt
        rw [List.getD_eq_getElem?_getD, List.getElem?_eq_getElem hj]
        exact List.getElem_mem hj))]
      simp
/-- Right shares, as many as are needed, give the power of the base with the first coefficient. -/
theorem lift_right (l : List (Int × Int)) (C : List Int) (base : Int) (hb : memB base = true) (hn : (l.map (·.1)).Nodup) (hC1 : 1 ≤ C.length) (hl : C.length ≤ l.length) (hC0 : 0 ≤ ptAt C 0 ∧ ptAt C 0 < 1152921504606845789)
    (hp : ∀ s ∈ l, ptB s.1 = true ∧ s.2 = powM base (valZ C s.1) 2305843009213691579) :
    enB memB C.length l = true ∧ liftedZ C.length l = powM base (ptAt C 0) 2305843009213691579 := by
  have hmem : ∀ s ∈ l, memB s.2 = true := fun s hs => by
    rw [(hp s hs).2]
    have hv := valZ_bd C s.1
    have hq : gQ = 1152921504606845789 := rfl
    exact mem_pow hb hv.1 (by omega)
  have hc := cnt_all memB l hn (fun s hs => ⟨(hp s hs).1, hmem s hs⟩)
  have hcp : cntP memB l = l.map (·.1) := congrArg Prod.fst hc
  have hcn : cntN memB l = l.map (·.2) := congrArg Prod.snd hc
  have he : enB memB C.length l = true := by
    unfold enB
    rw [hcp, List.length_map, decide_eq_true (by omega), decide_eq_true (by omega)]; rfl
  refine ⟨he, ?_⟩
  rw [lifted_eq _ _ he, Int.toNat_natCast, hcp, hcn]
  have hlen : ((l.map (·.1)).take C.length).length = C.length := by rw [List.length_take, List.length_map]; omega
  have hdiff : diffB ((l.map (·.1)).take C.length) = true := by
    refine diff_nodup _ (hn.sublist (List.take_sublist _ _)) (fun x hx => ?_) _ (Nat.le_refl _)
    have := List.mem_of_mem_take hx
    rw [List.mem_map] at this
    obtain ⟨s, hs, rfl⟩ := this
    exact (hp s hs).1
  have hat : ∀ j, j < C.length → ptAt ((l.map (·.2)).take C.length) j = powM base (valZ C (ptAt ((l.map (·.1)).take C.length) j)) 2305843009213691579 := fun j hj => by
    have hjl : j < l.length := by omega
    have e1 : ptAt ((l.map (·.1)).take C.length) j = (l[j]).1 := by unfold ptAt; simp [List.getD, hj, hjl]
    have e2 : ptAt ((l.map (·.2)).take C.length) j = (l[j]).2 := by unfold ptAt; simp [List.getD, hj, hjl]
    rw [e1, e2]
    exact (hp _ (List.getElem_mem hjl)).2
  generalize (l.map (·.1)).take C.length = F at *
  generalize (l.map (·.2)).take C.length = N at *
  have hll := lift_law F N (F.map (valZ C)) base hb (fun j hj => by
    have hv := valZ_bd C (ptAt F j)
    have e1 : ptAt (F.map (valZ C)) j = valZ C (ptAt F j) := by unfold ptAt; simp [List.getD, hj]
    rw [e1, hat j (by omega)]
    exact ⟨rfl, hv.1, hv.2⟩) C.length (by omega)
  rw [hll]
  have := comb_first F (F.map (valZ C)) C hdiff (by omega) hC0 (fun j hj => by unfold ptAt; simp [List.getD, hj])
  rw [hlen] at this
  rw [this]
  rfl
/-- A partial of a share is accepted. -/
theorem ac_right {n : Int} {C : List Int} (r : Int) {x : Int} (hC : ∀ j, 0 ≤ ptAt C j ∧ ptAt C j < 1152921504606845789) (h1 : 1 ≤ x) (h2 : x ≤ n) (h3 : n ≤ 60) :
    acB n (cmTo C C.length) r (evalV x (valZ C x) r) = true := by
  have hv := valZ_bd C x
  have hq : gQ = 1152921504606845789 := rfl
  have hr : inRng x (valZ C x) = true := by
    unfold inRng
    rw [decide_eq_true h1, decide_eq_true (show x ≤ 60 by omega), decide_eq_true hv.1, decide_eq_true (show valZ C x < 1152921504606845789 by omega)]; rfl
  unfold evalV
  rw [if_pos hr]
  unfold acB
  dsimp only
  rw [decide_eq_true h1, decide_eq_true h2, at_law C x hC]
  simp only [Bool.and_self, Bool.true_and]
  exact ver_made memFour (base_mem r) ⟨hv.1, by omega⟩
/-- What comes of partials. -/
def combB (n : Int) (cm : List Int) (r : Int) (L : List Pt4) : List (Int × Int) := shrL (goodL n cm r L)
end Go.Proofs.YtlhfgbkonmgahaaGreatDoor

namespace Go.Proofs.YtlhfgbkonmgahaaGreatDoor
open Go.RowKit

set_option maxHeartbeats 1000000 in
theorem pbase_any (r : Int) (w : World) (h0 : -9223372036854775808 ≤ r) (h1 : r ≤ 9223372036854775807) (hG : Glob w) :
    Calls Tryz.prog 11 #[.int .i64 r] w fun e w' => e = .returned (.int .i64 (baseZ r)) ∧ Only (fun _ => False) w w' := by
  have HI := Lib.hid (itoaI_any r w h0 h1 hG)
  have hs := decI_size h0 h1
  have HE := Lib.hid (fun w hG => pelement_any (roundS r) w (by have := roundS_size h0 h1; omega) hG)
  have HG := Lib.hid hG
  obtain ⟨E, hE⟩ : ∃ E, elemZ (roundS r) = E := ⟨_, rfl⟩
  rw [hE] at HE
  have HB := Lib.hid (show baseZ r = E from hE)
  unfold roundS at HE
  clear hG hE
  rw [HB.out]
  generalize decI r = D at *
  go_enter Tryz.func11, Tryz.ntmps11
  go_wp2_with fail
  refine HI.out.mono ?_
  rintro e w1 ⟨rfl, hO1⟩
  have HO1 := Lib.hid hO1
  clear hO1 HI
  go_wp2_with fail
  refine (HE.out _ (HG.out.only HO1.out)).mono ?_
  rintro e w2 ⟨rfl, hO2⟩
  have HO2 := Lib.hid (HO1.out.trans hO2)
  clear hO2
  go_wp2
  go_ret
  exact ⟨rfl, HO2.out⟩
theorem Tryz.infoPt : (Tryz.prog.info? 30).map (·.size) = some 4 := by kernel_rfl
theorem pt_one (a b c d : Int) : (#[Value.int .i64 a, .int .i64 b, .int .i64 c, .int .i64 d] : Array Value).all (·.oneCell') = true := by simp [Value.oneCell']
set_option maxRecDepth 100000 in
set_option maxHeartbeats 2000000 in
theorem peval_any (x y r : Int) (w : World) (h0 : -9223372036854775808 ≤ r) (h1 : r ≤ 9223372036854775807) (hG : Glob w) :
    Calls Tryz.prog 13 #[.agg #[.int .i64 x, .int .i64 y], .int .i64 r] w fun e w' => e = .returned (.agg #[.int .i64 (evalV x y r).1, .int .i64 (evalV x y r).2.1, .int .i64 (evalV x y r).2.2.1, .int .i64 (evalV x y r).2.2.2]) ∧ Only (fun _ => False) w w' := by
  have hA := ((Only.refl (fun _ => False) w).alloc (.cells #[.int .i64 x, .int .i64 y] 23)).alloc (.cells #[.int .i64 0, .int .i64 0, .int .i64 0, .int .i64 0] 30)
  have hz1 := heap_alloc_last (w.alloc (.cells #[.int .i64 x, .int .i64 y] 23)) (.cells #[.int .i64 0, .int .i64 0, .int .i64 0, .int .i64 0] 30)
  have hz0 := (Below.heap_alloc (w.alloc (.cells #[.int .i64 x, .int .i64 y] 23)) (.cells #[.int .i64 0, .int .i64 0, .int .i64 0, .int .i64 0] 30) w.heap.size (by simp)).trans (heap_alloc_last w _)
  rw [World.size_alloc] at hz1
  have HA := Lib.hid hA
  have HZ1 := Lib.hid hz1
  have HZ0 := Lib.hid hz0
  have HG := Lib.hid hG
  have f0 : _ = some (Value.int .i64 x) := cell_of_row _ _ 0 _ _ _ hz0
  have f1 : _ = some (Value.int .i64 y) := cell_of_row _ _ 1 _ _ _ hz0
  clear hA hz0 hz1 hG
  by_cases hr : inRng x y = true
  · obtain ⟨⟨x1, x2⟩, y1, y2⟩ := inRng_parts hr
    have HV := Lib.hid (show evalV x y r = (x, powM (baseZ r) y 2305843009213691579, pfC y 4 (baseZ r), pfZ y 4 (baseZ r)) by unfold evalV; rw [if_pos hr])
    have HB := Lib.hid (fun w hG => pbase_any r w h0 h1 hG)
    have HM := Lib.hid (base_mem r)
    rw [HV.out]
    clear HV hr
    generalize baseZ r = b at *
    have HPW := Lib.hid (fun w => pow_any b y 2305843009213691579 w (by decide) (by decide) y1 (by omega))
    have HPR := Lib.hid (fun w hG => prove_yes y 4 b w memFour HM.out hG)
    rw [Int.emod_eq_of_lt y1 y2] at HPR
    generalize pfC y 4 b = c at *
    generalize pfZ y 4 b = z at *
    generalize powM b y 2305843009213691579 = pw at *
    have i1 : ¬ x < 1 := by omega
    have i2 : ¬ 60 < x := by omega
    have i3 : ¬ y < 0 := by omega
    have i4 : ¬ 1152921504606845788 < y := by omega
    go_enter Tryz.func13, Tryz.ntmps13
    go_wp2_with fail
    generalize hblk : w.heap.size = blk at *
    generalize (w.alloc (.cells #[.int .i64 x, .int .i64 y] 23)).alloc (.cells #[.int .i64 0, .int .i64 0, .int .i64 0, .int .i64 0] 30) = w1 at *
    refine (HB.out _ (HG.out.only HA.out)).mono ?_
    rintro e w2 ⟨rfl, hO2⟩
    have HZ2 := Lib.hid (row_still hO2 HZ1.out)
    have e0 : _ = some (Value.int .i64 x) := cell_of_row _ _ 0 _ _ _ (row_still hO2 HZ0.out)
    have e1 : _ = some (Value.int .i64 y) := cell_of_row _ _ 1 _ _ _ (row_still hO2 HZ0.out)
    have HO2 := Lib.hid (HA.out.trans hO2)
    have HG2 := Lib.hid (HG.out.only HO2.out)
    have HBK := Lib.hid hblk
    clear hO2 HZ1 HZ0 HA f0 f1 HB hblk
    go_wp2_with fail
    have y0 := fun (d : Nat) (os : Array Obj) => cell_regrown e0 d os
    have y1' := fun (d : Nat) (os : Array Obj) => cell_regrown e1 d os
    clear e0 e1
    refine wp_region_below_split2 10 (by kernel_rfl) (by kernel_rfl) (by kernel_rfl) ?_
    simp only [List.take_succ_cons, List.take_zero, List.drop_succ_cons, List.drop_zero]
    repeat (go_big_quiet_step ((first | (go_at_call 20; exact Calls.regrown_of ((HPW.out _).mono fun _ _ h => ⟨h.1, by rw [h.2]; exact (Below.refl _ _).alloc (Nat.le_refl _) _⟩)) | (go_at_call 37; exact Calls.regrown_of ((HPR.out _ (Glob.grown HG2.out _ _)).mono fun _ _ h => ⟨h.1, h.2.below (Nat.le_refl _) (fun _ _ h => h)⟩)))))
    refine wpQuiet_nil ?_
    intro w3 hw'
    obtain ⟨pq, hw''⟩ := hw'
    have HO23 := Lib.hid (Only.ofBelow (below_regrown w2 pq.d pq.os) (fun _ => False))
    rw [← hw''] at HO23
    have HO := Lib.hid (HO2.out.trans HO23.out)
    have HZ3 := Lib.hid (row_still HO23.out HZ2.out)
    clear hw'' y0 y1'
    go_wp2_with (first | (refine wpList_store_row rfl 30 _ _ rfl (blk + 1) #[.int .i64 x, .int .i64 pw, .int .i64 c, .int .i64 z] rfl rfl 30 _ HZ3.out Tryz.infoPt rfl (pt_one _ _ _ _) ?_))
    exact bodyPost_ret (v := .agg #[.int .i64 x, .int .i64 pw, .int .i64 c, .int .i64 z]) (results_cell_row rfl _ _ (blk + 1) 30 #[.int .i64 x, .int .i64 pw, .int .i64 c, .int .i64 z] (0, 0) _ rfl (setRow_heap _ _ _ _ _ _ HZ3.out) Tryz.underlying30 rfl Tryz.infoPt) rfl ⟨rfl, HO.out.setRow (by have := HBK.out; omega) _⟩
  · have HV := Lib.hid (show evalV x y r = (0, 0, 0, 0) by unfold evalV; rw [if_neg hr])
    have hr2 : x < 1 ∨ (1 ≤ x ∧ 60 < x) ∨ (1 ≤ x ∧ x ≤ 60 ∧ y < 0) ∨ (1 ≤ x ∧ x ≤ 60 ∧ 0 ≤ y ∧ 1152921504606845788 < y) := by
      unfold inRng at hr
      simp only [Bool.and_eq_true, decide_eq_true_eq] at hr
      omega
    rw [HV.out]
    clear hr
    rcases hr2 with h | ⟨g1, h⟩ | ⟨g1, g2, h⟩ | ⟨g1, g2, g3, h⟩
    all_goals (go_enter Tryz.func13, Tryz.ntmps13)
    all_goals (go_wp2_with (first | (refine wpList_store_row rfl 30 _ _ rfl (w.heap.size + 1) #[.int .i64 0, .int .i64 0, .int .i64 0, .int .i64 0] rfl rfl 30 _ HZ1.out Tryz.infoPt rfl (pt_one _ _ _ _) ?_)))
    all_goals (exact bodyPost_ret (v := .agg #[.int .i64 0, .int .i64 0, .int .i64 0, .int .i64 0]) (results_cell_row rfl _ _ (w.heap.size + 1) 30 #[.int .i64 0, .int .i64 0, .int .i64 0, .int .i64 0] (0, 0) _ rfl (setRow_heap _ _ _ _ _ _ HZ1.out) Tryz.underlying30 rfl Tryz.infoPt) rfl ⟨rfl, HA.out.setRow (by omega) _⟩)
/-- Rows of points, opened. -/
theorem grid_row {W : World} {ap : Option Addr} {cp k : Nat} {rows : List (List Int)} (h : GridAt W (.slice ap rows.length cp) rows) (hk : k < rows.length) :
    ∃ b off au cu, ap = some ⟨b, off, none⟩ ∧ b < W.heap.size ∧ rows.length ≤ cp ∧ cp ≤ 9223372036854775807 ∧ W.cell? ⟨b, off + k, none⟩ = some (.slice au (rows.getD k []).length cu) := by
  rcases h with ⟨_, _, _, h0⟩ | ⟨b, off, cap, hv, hb, h1, h2, hc⟩
  · rw [h0] at hk; simp at hk
  · simp only [Value.slice.injEq, true_and] at hv
    obtain ⟨rfl, rfl⟩ := hv
    obtain ⟨u, hu, hp⟩ := hc k hk
    obtain ⟨au, cu, rfl⟩ := hp.slice
    exact ⟨b, off, au, cu, rfl, hb, h1, h2, hu⟩
set_option maxRecDepth 100000 in
set_option maxHeartbeats 4000000 in
theorem accepts_any (ac ap : Option Addr) (cc cp : Nat) (cm : List Int) (rows : List (List Int)) (r x v c z : Int) (w : World) (hC : PtsAt w.heap.size w (.slice ac cm.length cc) cm) (hR : GridAt w (.slice ap rows.length cp) rows)
    (hs : ∀ k, k ≤ rows.length → gridTo rows k ≤ 1000000) (hcm : cm.length ≤ 1000000) (h0 : -9223372036854775808 ≤ r) (h1 : r ≤ 9223372036854775807) (hG : Glob w) :
    Calls Tryz.prog 45 #[.agg #[.slice ac cm.length cc, .slice ap rows.length cp], .int .i64 r, .agg #[.int .i64 x, .int .i64 v, .int .i64 c, .int .i64 z]] w fun e w' => e = .returned (.bool (acB (gridN rows : Nat) cm r (x, v, c, z))) ∧ Only (fun _ => False) w w' := by
  have hA := ((Only.refl (fun _ => False) w).alloc (.cells #[.slice ac cm.length cc, .slice ap rows.length cp] 41)).alloc (.cells #[.int .i64 x, .int .i64 v, .int .i64 c, .int .i64 z] 30)
  have hz1 := heap_alloc_last (w.alloc (.cells #[.slice ac cm.length cc, .slice ap rows.length cp] 41)) (.cells #[.int .i64 x, .int .i64 v, .int .i64 c, .int .i64 z] 30)
  have hz0 := (Below.heap_alloc (w.alloc (.cells #[.slice ac cm.length cc, .slice ap rows.length cp] 41)) (.cells #[.int .i64 x, .int .i64 v, .int .i64 c, .int .i64 z] 30) w.heap.size (by simp)).trans (heap_alloc_last w _)
  rw [World.size_alloc] at hz1
  have HA := Lib.hid hA
  have HC := Lib.hid (hC.only hA)
  have HR := Lib.hid (hR.only hA)
  have HS := Lib.hid hs
  have HG := Lib.hid (hG.only hA)
  have HGN := Lib.hid (show gridN rows = gridTo rows rows.length from rfl)
  have e0 : _ = some (Value.slice ac cm.length cc) := cell_of_row _ _ 0 _ _ _ hz0
  have e1 : _ = some (Value.slice ap rows.length cp) := cell_of_row _ _ 1 _ _ _ hz0
  have p0 : _ = some (Value.int .i64 x) := cell_of_row _ _ 0 _ _ _ hz1
  have p1 : _ = some (Value.int .i64 v) := cell_of_row _ _ 1 _ _ _ hz1
  have p2 : _ = some (Value.int .i64 c) := cell_of_row _ _ 2 _ _ _ hz1
  have p3 : _ = some (Value.int .i64 z) := cell_of_row _ _ 3 _ _ _ hz1
  have HAC := Lib.hid (show acB (gridN rows : Nat) cm r (x, v, c, z) = ((decide (1 ≤ x) && decide (x ≤ (gridN rows : Nat))) && verB 4 (atZ cm x) (baseZ r) v c z) from rfl)
  obtain ⟨bb, hbb⟩ : ∃ bb, acB (gridN rows : Nat) cm r (x, v, c, z) = bb := ⟨_, rfl⟩
  rw [hbb] at HAC ⊢
  clear hC hR hG hA hz0 hz1 hs hbb
  have HAT := Lib.hid (fun w hI => at_any (.slice ac cm.length cc) cm x w hI (by omega))
  have HBS := Lib.hid (fun w hG => pbase_any r w h0 h1 hG)
  have HVR := Lib.hid (fun w hG => verify_any 4 (atZ cm x) (baseZ r) v c z w hG)
  generalize atZ cm x = ax at *
  generalize baseZ r = br at *
  go_enter Tryz.func45, Tryz.ntmps45
  go_wp2_with fail
  generalize hblk : w.heap.size = blk at *
  generalize (w.alloc (.cells #[.slice ac cm.length cc, .slice ap rows.length cp] 41)).alloc (.cells #[.int .i64 x, .int .i64 v, .int .i64 c, .int .i64 z] 30) = w1 at *
  clear hblk
  go_loop [7, 13] (fun vn vi => ∃ k : Nat, k ≤ rows.length ∧ vi = .int .i64 k ∧ vn = .int .i64 (gridTo rows k : Nat)) (fun _ vi => rows.length - (intOf vi).toNat)
  case atStart => exact ⟨0, Nat.zero_le _, rfl, rfl⟩
  case round =>
    obtain ⟨k, hk, rfl, rfl⟩ := hrel
    by_cases hlt : k < rows.length
    · have i1 : (k : Int) < rows.length := by omega
      have i2 : 0 ≤ (k : Int) := by omega
      obtain ⟨b, off, au, cu, rfl, hb, hcp1, hcp2, hu⟩ := grid_row HR.out hlt
      have HN := Lib.hid (show gridTo rows (k + 1) = gridTo rows k + (rows.getD k []).length from rfl)
      have s1 := HS.out k hk
      have s2 := HS.out (k + 1) (by omega)
      rw [HN.out] at s2
      generalize gridTo rows k = t at *
      generalize (rows.getD k []).length = m at *
      go_wp2
      go_round
      case rel => exact ⟨k + 1, by omega, by go_num, by rw [HN.out]; go_num⟩
      case measure => simp [intOf]; omega
    · obtain rfl : k = rows.length := by omega
      have i1 : ¬ (rows.length : Int) < rows.length := by omega
      have s1 := HS.out rows.length (Nat.le_refl _)
      rw [HGN.out] at HAC
      generalize gridTo rows rows.length = n at *
      clear hk hlt HGN HS
      by_cases g1 : x < 1
      · have HBB := Lib.hid (show bb = false by rw [HAC.out, decide_eq_false (by omega)]; rfl)
        clear HAC
        go_wp2
        go_ret
        exact ⟨by rw [HBB.out]; rfl, HA.out⟩
      · by_cases g2 : (n : Int) < x
        · have HBB := Lib.hid (show bb = false by rw [HAC.out, decide_eq_false (show ¬ x ≤ (n : Int) by omega), Bool.and_false]; rfl)
          clear HAC
          go_wp2
          go_ret
          exact ⟨by rw [HBB.out]; rfl, HA.out⟩
        · have HBB := Lib.hid (show verB 4 ax br v c z = bb by rw [HAC.out, decide_eq_true (show 1 ≤ x by omega), decide_eq_true (show x ≤ (n : Int) by omega)]; rfl)
          clear HAC
          rw [HBB.out] at HVR
          go_upto_region 9 with fail
          have y0 := fun (d : Nat) (os : Array Obj) => cell_regrown e0 d os
          have y1 := fun (d : Nat) (os : Array Obj) => cell_regrown p0 d os
          have y2 := fun (d : Nat) (os : Array Obj) => cell_regrown p1 d os
          have y3 := fun (d : Nat) (os : Array Obj) => cell_regrown p2 d os
          have y4 := fun (d : Nat) (os : Array Obj) => cell_regrown p3 d os
          clear e0 e1 p0 p1 p2 p3
          refine wp_region_quiet_below (by kernel_rfl) (by kernel_rfl) ?_
          repeat (go_big_quiet_step ((first | (go_at_call 80; exact Calls.regrown_of ((HAT.out _ (HC.out.only (Only.ofBelow (below_regrown _ _ _) _))).mono fun _ _ h => ⟨h.1, h.2⟩)) | (go_at_call 11; exact Calls.regrown_of ((HBS.out _ (Glob.grown HG.out _ _)).mono fun _ _ h => ⟨h.1, h.2.below (Nat.le_refl _) (fun _ _ h => h)⟩)) | (go_at_call 79; exact Calls.regrown_of ((HVR.out _ (Glob.grown HG.out _ _)).mono fun _ _ h => ⟨h.1, h.2.below (Nat.le_refl _) (fun _ _ h => h)⟩)))))
          refine wpQuiet_nil ?_
          intro w2 hw'
          obtain ⟨pq, hw''⟩ := hw'
          have HO12 := Lib.hid (Only.ofBelow (below_regrown w1 pq.d pq.os) (fun _ => False))
          rw [← hw''] at HO12
          have HO2 := Lib.hid (HA.out.trans HO12.out)
          clear hw'' y0 y1 y2 y3 y4
          go_wp2
          go_ret
          exact ⟨rfl, HO2.out⟩
end Go.Proofs.YtlhfgbkonmgahaaGreatDoor

namespace Go.Proofs.YtlhfgbkonmgahaaGreatDoor
open Go.RowKit

set_option maxRecDepth 100000 in
set_option maxHeartbeats 2000000 in
theorem bverify_any (ac ap : Option Addr) (cc cp : Nat) (cm : List Int) (rows : List (List Int)) (r x v c z : Int) (w : World) (hC : PtsAt w.heap.size w (.slice ac cm.length cc) cm) (hR : GridAt w (.slice ap rows.length cp) rows)
    (hs : ∀ k, k ≤ rows.length → gridTo rows k ≤ 1000000) (hcm : cm.length ≤ 1000000) (h0 : -9223372036854775808 ≤ r) (h1 : r ≤ 9223372036854775807) (hG : Glob w) :
    Calls Tryz.prog 17 #[.agg #[.slice ac cm.length cc, .slice ap rows.length cp], .int .i64 r, .agg #[.int .i64 x, .int .i64 v, .int .i64 c, .int .i64 z]] w fun e w' => e = .returned (.bool (rightKB rows cm && acB (gridN rows : Nat) cm r (x, v, c, z))) ∧ Only (fun _ => False) w w' := by
  have hA := ((Only.refl (fun _ => False) w).alloc (.cells #[.slice ac cm.length cc, .slice ap rows.length cp] 41)).alloc (.cells #[.int .i64 x, .int .i64 v, .int .i64 c, .int .i64 z] 30)
  have hz1 := heap_alloc_last (w.alloc (.cells #[.slice ac cm.length cc, .slice ap rows.length cp] 41)) (.cells #[.int .i64 x, .int .i64 v, .int .i64 c, .int .i64 z] 30)
  have hz0 := (Below.heap_alloc (w.alloc (.cells #[.slice ac cm.length cc, .slice ap rows.length cp] 41)) (.cells #[.int .i64 x, .int .i64 v, .int .i64 c, .int .i64 z] 30) w.heap.size (by simp)).trans (heap_alloc_last w _)
  rw [World.size_alloc] at hz1
  have HA := Lib.hid hA
  have HZ1 := Lib.hid hz1
  have HZ0 := Lib.hid hz0
  obtain ⟨rb, hrb⟩ : ∃ rb, rightKB rows cm = rb := ⟨_, rfl⟩
  have HRI := Lib.hid (right_is ac ap cc cp cm rows rb _ (hC.only hA) (hR.only hA) hs hcm hrb)
  have HAC := Lib.hid (fun (W : World) (hW : Only (fun _ => False) w W) => accepts_any ac ap cc cp cm rows r x v c z W (hC.only hW) (hR.only hW) hs hcm h0 h1 (hG.only hW))
  rw [hrb]
  generalize acB (gridN rows : Nat) cm r (x, v, c, z) = ab at *
  have e0 : _ = some (Value.slice ac cm.length cc) := cell_of_row _ _ 0 _ _ _ hz0
  have e1 : _ = some (Value.slice ap rows.length cp) := cell_of_row _ _ 1 _ _ _ hz0
  clear hA hz0 hz1 hC hR hG hrb
  go_enter Tryz.func17, Tryz.ntmps17
  go_wp2_with fail
  refine HRI.out.mono ?_
  rintro e w2 ⟨rfl, hO2⟩
  have HO2 := Lib.hid (HA.out.trans hO2)
  have x0 : _ = some (Value.slice ac cm.length cc) := cell_of_row _ _ 0 _ _ _ (row_still hO2 HZ0.out)
  have x1 : _ = some (Value.slice ap rows.length cp) := cell_of_row _ _ 1 _ _ _ (row_still hO2 HZ0.out)
  have p0 : _ = some (Value.int .i64 x) := cell_of_row _ _ 0 _ _ _ (row_still hO2 HZ1.out)
  have p1 : _ = some (Value.int .i64 v) := cell_of_row _ _ 1 _ _ _ (row_still hO2 HZ1.out)
  have p2 : _ = some (Value.int .i64 c) := cell_of_row _ _ 2 _ _ _ (row_still hO2 HZ1.out)
  have p3 : _ = some (Value.int .i64 z) := cell_of_row _ _ 3 _ _ _ (row_still hO2 HZ1.out)
  generalize hblk : w.heap.size = blk at *
  clear hO2 HZ0 HZ1 HRI HA e0 e1 hblk
  cases rb
  · go_wp2
    go_ret
    exact ⟨rfl, HO2.out⟩
  · go_wp2_with fail
    refine (HAC.out _ HO2.out).mono ?_
    rintro e w3 ⟨rfl, hO3⟩
    have HO3 := Lib.hid (HO2.out.trans hO3)
    clear hO3
    go_wp2
    go_ret
    exact ⟨rfl, HO3.out⟩
set_option maxHeartbeats 1000000 in
theorem comb1_any (bk br : Nat) (ac ap : Option Addr) (cc cp : Nat) (cm : List Int) (rows : List (List Int)) (r x v c z : Int) (w : World) (hC : PtsAt w.heap.size w (.slice ac cm.length cc) cm) (hR : GridAt w (.slice ap rows.length cp) rows)
    (hs : ∀ k, k ≤ rows.length → gridTo rows k ≤ 1000000) (hcm : cm.length ≤ 1000000) (h0 : -9223372036854775808 ≤ r) (h1 : r ≤ 9223372036854775807) (hG : Glob w)
    (hk : w.heap[bk]? = some (.cells #[.slice ac cm.length cc, .slice ap rows.length cp] 41 (0, 0))) (hr : w.heap[br]? = some (.cells #[.int .i64 r] 3 (0, 0))) :
    Calls Tryz.prog 53 #[.agg #[.int .i64 x, .int .i64 v, .int .i64 c, .int .i64 z], .pointer (some ⟨bk, 0, none⟩), .pointer (some ⟨br, 0, none⟩)] w fun e w' => e = .returned (.bool (acB (gridN rows : Nat) cm r (x, v, c, z))) ∧ Only (fun _ => False) w w' := by
  have hA := (Only.refl (fun _ => False) w).alloc (.cells #[.int .i64 x, .int .i64 v, .int .i64 c, .int .i64 z] 30)
  have HAC := Lib.hid (accepts_any ac ap cc cp cm rows r x v c z _ (hC.only hA) (hR.only hA) hs hcm h0 h1 (hG.only hA))
  generalize acB (gridN rows : Nat) cm r (x, v, c, z) = ab at *
  have e0 : _ = some (Value.slice ac cm.length cc) := cell_of_row _ _ 0 _ _ _ hk
  have e1 : _ = some (Value.slice ap rows.length cp) := cell_of_row _ _ 1 _ _ _ hk
  have e2 : _ = some (Value.int .i64 r) := cell_of_row _ _ 0 _ _ _ hr
  have l0 := own_lt0 hk
  have l1 := own_lt0 hr
  have HA := Lib.hid hA
  clear hA hC hR hG hk hr
  go_enter Tryz.func53, Tryz.ntmps53
  go_wp2_with fail
  refine HAC.out.mono ?_
  rintro e w3 ⟨rfl, hO3⟩
  have HO3 := Lib.hid (HA.out.trans hO3)
  clear hO3
  go_wp2
  go_ret
  exact ⟨rfl, HO3.out⟩
theorem Tryz.infoP4 : (Tryz.prog.info? 30).map (fun i => (i.zero, i.size, i.bytes)) = some (some (.agg #[.int .i64 0, .int .i64 0, .int .i64 0, .int .i64 0]), 4, 32) := by kernel_rfl
def p4At (l : List Pt4) (j : Nat) : Pt4 := l.getD j (0, 0, 0, 0)
def prow (l : List Pt4) : List Value := l.flatMap (fun s => [.int .i64 s.1, .int .i64 s.2.1, .int .i64 s.2.2.1, .int .i64 s.2.2.2])
theorem prow_append (a b : List Pt4) : prow (a ++ b) = prow a ++ prow b := by simp [prow]
theorem prow_length (l : List Pt4) : (prow l).length = l.length * 4 := by
  induction l with
  | nil => rfl
  | cons s l ih => simp only [prow, List.flatMap_cons, List.length_append] at ih ⊢; rw [ih]; simp; omega
theorem prow_at (l : List Pt4) : ∀ j, j < l.length → (prow l)[j * 4]? = some (.int .i64 (p4At l j).1) ∧ (prow l)[j * 4 + 1]? = some (.int .i64 (p4At l j).2.1) ∧ (prow l)[j * 4 + 2]? = some (.int .i64 (p4At l j).2.2.1) ∧ (prow l)[j * 4 + 3]? = some (.int .i64 (p4At l j).2.2.2) := by
  induction l with
  | nil => intro j h; simp at h
  | cons s l ih =>
    intro j hj
    cases j with
    | zero => simp [prow, p4At]
    | succ j =>
      have := ih j (by simpa using hj)
      have e1 : (j + 1) * 4 = j * 4 + 4 := by omega
      rw [e1]
      simpa [prow, p4At] using this
/-- A slice of partials. -/
def P4sAt (W : World) (sv : Value) (l : List Pt4) : Prop :=
  (∃ a c, sv = .slice a 0 c ∧ l = []) ∨ ∃ b off cap, sv = .slice (some ⟨b, off, none⟩) l.length cap ∧ b < W.heap.size ∧ l.length ≤ cap ∧ cap ≤ 9223372036854775807 ∧
    ∀ j, j < l.length → W.cell? ⟨b, off + j * 4, none⟩ = some (.int .i64 (p4At l j).1) ∧ W.cell? ⟨b, off + j * 4 + 1, none⟩ = some (.int .i64 (p4At l j).2.1) ∧ W.cell? ⟨b, off + j * 4 + 2, none⟩ = some (.int .i64 (p4At l j).2.2.1) ∧ W.cell? ⟨b, off + j * 4 + 3, none⟩ = some (.int .i64 (p4At l j).2.2.2)
theorem P4sAt.only {A B : World} (h : Only (fun _ => False) A B) {sv : Value} {l : List Pt4} : P4sAt A sv l → P4sAt B sv l
  | .inl e => .inl e
  | .inr ⟨b, off, cap, e, hb, h1, h2, hc⟩ => .inr ⟨b, off, cap, e, Nat.lt_of_lt_of_le hb h.size, h1, h2, fun j hj => by
      obtain ⟨c0, c1, c2, c3⟩ := hc j hj
      exact ⟨h.cell c0 id, h.cell c1 id, h.cell c2 id, h.cell c3 id⟩⟩
theorem P4sAt.slice {W : World} {sv : Value} {l : List Pt4} (h : P4sAt W sv l) : ∃ a c, sv = .slice a l.length c := by
  rcases h with ⟨a, c, rfl, rfl⟩ | ⟨b, off, cap, rfl, _⟩
  · exact ⟨a, c, rfl⟩
  · exact ⟨_, _, rfl⟩
theorem P4sAt.at {W : World} {a : Option Addr} {n c j : Nat} {l : List Pt4} (h : P4sAt W (.slice a n c) l) (hj : j < l.length) :
    ∃ b off, a = some ⟨b, off, none⟩ ∧ b < W.heap.size ∧ l.length ≤ c ∧ c ≤ 9223372036854775807 ∧ W.cell? ⟨b, off + j * 4, none⟩ = some (.int .i64 (p4At l j).1) ∧ W.cell? ⟨b, off + j * 4 + 1, none⟩ = some (.int .i64 (p4At l j).2.1) ∧ W.cell? ⟨b, off + j * 4 + 2, none⟩ = some (.int .i64 (p4At l j).2.2.1) ∧ W.cell? ⟨b, off + j * 4 + 3, none⟩ = some (.int .i64 (p4At l j).2.2.2) := by
  rcases h with ⟨_, _, _, h0⟩ | ⟨b, off, cap, hv, hb, h1, h2, hc⟩
  · rw [h0] at hj; simp at hj
  · simp only [Value.slice.injEq] at hv
    obtain ⟨rfl, rfl, rfl⟩ := hv
    exact ⟨b, off, rfl, hb, h1, h2, hc j hj⟩
theorem p4s_of_own {w : World} {base : Nat} {v : Value} {l : List Pt4} (h : w.ownsRow base 30 4 v l.length (prow l)) : P4sAt w v l := by
  cases l with
  | nil =>
    rcases h.2 with ⟨rfl, _⟩ | ⟨g, cap, cur, rfl, _⟩
    · exact .inl ⟨_, _, rfl, rfl⟩
    · exact .inl ⟨_, _, rfl, rfl⟩
  | cons z l =>
    rcases h.2 with ⟨_, h0⟩ | ⟨g, cap, cur, rfl, hb, hg, hcap, hcap2, hsz, htk⟩
    · simp at h0
    · refine .inr ⟨g, 0, cap, rfl, (Array.getElem?_eq_some_iff.1 hg).1, hcap, by unfold maxLen at hcap2; omega, fun j hj => ?_⟩
      have h1 := prow_at (z :: l) j hj
      have c1 := cell_of_row w g (j * 4) cur 30 (0, 0) hg
      have c2 := cell_of_row w g (j * 4 + 1) cur 30 (0, 0) hg
      have c3 := cell_of_row w g (j * 4 + 2) cur 30 (0, 0) hg
      have c4 := cell_of_row w g (j * 4 + 3) cur 30 (0, 0) hg
      rw [Nat.zero_add, c1, c2, c3, c4]
      rw [← htk, List.getElem?_take_of_lt (by omega), List.getElem?_take_of_lt (by omega), List.getElem?_take_of_lt (by omega), List.getElem?_take_of_lt (by omega)] at h1
      simpa using h1
/-- Two slices of partials, each in a block of its own. -/
structure Two4 (base : Nat) (W : World) (v u : Value) (gl bl : List Pt4) : Prop where
  own1 : W.ownsRow base 30 4 v gl.length (prow gl)
  own2 : W.ownsRow base 30 4 u bl.length (prow bl)
  ne : ∀ k, v.ownBlock = some k → u.ownBlock ≠ some k
theorem Two4.only {base : Nat} {A B : World} {v u : Value} {gl bl : List Pt4} (h : Two4 base A v u gl bl) (hO : Only (fun _ => False) A B) : Two4 base B v u gl bl :=
  ⟨hO.owns h.own1 (fun _ _ h => h), hO.owns h.own2 (fun _ _ h => h), h.ne⟩
theorem Two4.left {base g cap : Nat} {W w' : World} {v u : Value} {gl bl : List Pt4} {p : Pt4} (h : Two4 base W v u gl bl)
    (hown : w'.ownsRow base 30 4 (.slice (some ⟨g, 0, none⟩) (gl.length + 1) cap) (gl.length + 1) (prow gl ++ prow [p])) (hg : W.grownBy w' v.ownBlock) (hat : v.ownBlock = some g ∨ g = W.heap.size) :
    Two4 base w' (.slice (some ⟨g, 0, none⟩) (gl.length + 1) cap) u (gl ++ [p]) bl := by
  have hO : Only (fun k => v.ownBlock = some k) W w' := (Only.refl _ W).grown hg (fun k e _ => e)
  refine ⟨by rw [List.length_append, prow_append]; exact hown, hO.owns h.own2 (fun k hu hv => h.ne k hv hu), fun k hk hu => ?_⟩
  have e : g = k := by simpa [Value.ownBlock] using hk
  subst e
  rcases hat with hat | hat
  · exact h.ne _ hat hu
  · have := (own_lt h.own2 hu).1; omega
theorem Two4.right {base g cap : Nat} {W w' : World} {v u : Value} {gl bl : List Pt4} {p : Pt4} (h : Two4 base W v u gl bl)
    (hown : w'.ownsRow base 30 4 (.slice (some ⟨g, 0, none⟩) (bl.length + 1) cap) (bl.length + 1) (prow bl ++ prow [p])) (hg : W.grownBy w' u.ownBlock) (hat : u.ownBlock = some g ∨ g = W.heap.size) :
    Two4 base w' v (.slice (some ⟨g, 0, none⟩) (bl.length + 1) cap) gl (bl ++ [p]) := by
  have hO : Only (fun k => u.ownBlock = some k) W w' := (Only.refl _ W).grown hg (fun k e _ => e)
  refine ⟨hO.owns h.own1 (fun k hv hu => h.ne k hv hu), by rw [List.length_append, prow_append]; exact hown, fun k hk hu => ?_⟩
  have e : g = k := by simpa [Value.ownBlock] using hu
  subst e
  rcases hat with hat | hat
  · exact h.ne _ hk hat
  · have := (own_lt h.own1 hk).1; omega
theorem p4_take (l : List Pt4) (k : Nat) (h : k < l.length) : l.take (k + 1) = l.take k ++ [p4At l k] := by
  rw [List.take_add_one]; simp [p4At, List.getD, h]
theorem p4_one (p : Pt4) : ∀ u ∈ prow [p], u.oneCell' = true := by
  intro u hu
  simp [prow] at hu
  rcases hu with rfl | rfl | rfl | rfl <;> rfl
end Go.Proofs.YtlhfgbkonmgahaaGreatDoor

namespace Go.Proofs.YtlhfgbkonmgahaaGreatDoor
open Go.RowKit

def decsL (zs : List Int) : List ByteArray := zs.map decI
/-- Numbers in decimal, with blanks between them. -/
def joinI (zs : List Int) : ByteArray := ⟨(Lib.join ((decsL zs).map (·.data.toList)) [32]).toArray⟩
def textP (p : Pt4) : ByteArray := joinI [p.1, p.2.1, p.2.2.1, p.2.2.2]
def R64 (z : Int) : Prop := -9223372036854775808 ≤ z ∧ z ≤ 9223372036854775807
theorem decsL_lens : ∀ (zs : List Int), (∀ z ∈ zs, R64 z) → Lib.lens ((decsL zs).map (·.data.toList)) ≤ 21 * zs.length
  | [], _ => by simp [decsL, Lib.lens]
  | z :: zs, h => by
    have ih := decsL_lens zs (fun x hx => h x (List.mem_cons_of_mem _ hx))
    obtain ⟨h0, h1⟩ := h z (List.mem_cons_self)
    have := decI_size h0 h1
    have e : Lib.lens ((decsL (z :: zs)).map (·.data.toList)) = (decI z).size + Lib.lens ((decsL zs).map (·.data.toList)) := by
      simp [decsL, Lib.lens]
    rw [e, List.length_cons]
    omega
theorem joinI_len (zs : List Int) (h : ∀ z ∈ zs, R64 z) : (Lib.join ((decsL zs).map (·.data.toList)) [32]).length ≤ 22 * zs.length := by
  have hl := decsL_lens zs h
  cases zs with
  | nil => exact Nat.le_of_eq rfl
  | cons z zs =>
    have e : (decsL (z :: zs)).map (·.data.toList) = (decI z).data.toList :: (decsL zs).map (·.data.toList) := rfl
    rw [e, Lib.join_length, ← e]
    have : ((decsL zs).map (·.data.toList)).length = zs.length := by simp [decsL]
    rw [this]
    show 1 * _ + _ ≤ _
    simp only [List.length_cons] at *
    omega
def txiAt (zs : List Int) (k : Nat) (j : Nat) : Value := if j < k then .string (decI (ptAt zs j)) else .string ⟨#[]⟩
structure TxiAt (w wr : World) (B : Nat) (zs : List Int) (k : Nat) : Prop where
  row : wr.rowIs B 9 zs.length (txiAt zs k)
  lo : w.heap.size ≤ B
  only : Only (fun _ => False) w wr
theorem TxiAt.next {w wr wr' : World} {B : Nat} {zs : List Int} {k : Nat} (h : TxiAt w wr B zs k) (hO : Only (fun _ => False) wr wr') : TxiAt w (wr'.setCell ⟨B, k, none⟩ (.string (decI (ptAt zs k)))) B zs (k + 1) := by
  have hr := h.row.of_block (hO.block B h.row.lt (fun e => e))
  refine ⟨(hr.set k _).congr (fun j _ => ?_), h.lo, (h.only.trans hO).setCell (.inr h.lo) _⟩
  unfold txiAt
  by_cases e : j = k
  · subst e; rw [if_pos rfl, if_pos (by omega)]
  · rw [if_neg e]
    by_cases e2 : j < k
    · rw [if_pos e2, if_pos (by omega)]
    · rw [if_neg e2, if_neg (by omega)]
set_option maxHeartbeats 2000000 in
set_option maxRecDepth 100000 in
theorem btext_any (x v c z : Int) (w : World) (hx : R64 x) (hv : R64 v) (hc : R64 c) (hz : R64 z) (hG : Glob w) :
    Calls Tryz.prog 28 #[.agg #[.int .i64 x, .int .i64 v, .int .i64 c, .int .i64 z]] w fun e w' => e = .returned (.string (textP (x, v, c, z))) ∧ Only (fun _ => False) w w' := by
  obtain ⟨j0, hj0, hy0, hy1, hy2⟩ := info_parts Tryz.infoStr
  obtain ⟨zs, hzs⟩ : ∃ zs : List Int, zs = [x, v, c, z] := ⟨_, rfl⟩
  have HR := Lib.hid (show ∀ y ∈ zs, R64 y by rw [hzs]; intro y hy; simp at hy; rcases hy with rfl | rfl | rfl | rfl <;> assumption)
  have HLN := Lib.hid (show zs.length = 4 by rw [hzs]; rfl)
  have HJL := Lib.hid (show (Lib.join ((decsL zs).map (·.data.toList)) (⟨#[32]⟩ : ByteArray).data.toList).length ≤ 1000000000 by
    have := joinI_len zs HR.out
    rw [HLN.out] at this
    show (Lib.join ((decsL zs).map (·.data.toList)) [32]).length ≤ _
    omega)
  have HJN := Lib.hid (show (⟨(Lib.join ((decsL zs).map (·.data.toList)) (⟨#[32]⟩ : ByteArray).data.toList).toArray⟩ : ByteArray) = textP (x, v, c, z) by rw [hzs]; rfl)
  have HDL := Lib.hid (show (decsL zs).length = 4 by unfold decsL; rw [List.length_map, HLN.out])
  have hA := (Only.refl (fun _ => False) w).alloc (.cells #[.int .i64 x, .int .i64 v, .int .i64 c, .int .i64 z] 30)
  have hA2 := hA.alloc (.cells #[.int .i64 x, .int .i64 v, .int .i64 c, .int .i64 z] 3)
  have hA3 := hA2.alloc (.cells (madeCells #[.string ⟨#[]⟩] 4) 9)
  have hn := row_still ((Only.refl (fun _ => False) _).alloc (.cells (madeCells #[.string ⟨#[]⟩] 4) 9)) (heap_alloc_last (w.alloc (.cells #[.int .i64 x, .int .i64 v, .int .i64 c, .int .i64 z] 30)) (.cells #[.int .i64 x, .int .i64 v, .int .i64 c, .int .i64 z] 3))
  rw [World.size_alloc] at hn
  have hmk := run_make_row (P := Tryz.prog) 68 9 j0 _ Tryz.underlying68 hj0 hy0 hy1 rfl .i64 .i64 4 (by rw [hy2]; omega) (by omega) ((w.alloc (.cells #[.int .i64 x, .int .i64 v, .int .i64 c, .int .i64 z] 30)).alloc (.cells #[.int .i64 x, .int .i64 v, .int .i64 c, .int .i64 z] 3))
  rw [show ((4 : Nat) : Int) = 4 from rfl] at hmk
  have hb := World.rowIs_made ((w.alloc (.cells #[.int .i64 x, .int .i64 v, .int .i64 c, .int .i64 z] 30)).alloc (.cells #[.int .i64 x, .int .i64 v, .int .i64 c, .int .i64 z] 3)) (.string ⟨#[]⟩) 4 9
  rw [World.size_alloc, World.size_alloc] at hb
  have HT0 := Lib.hid (show TxiAt w (((w.alloc (.cells #[.int .i64 x, .int .i64 v, .int .i64 c, .int .i64 z] 30)).alloc (.cells #[.int .i64 x, .int .i64 v, .int .i64 c, .int .i64 z] 3)).alloc (.cells (madeCells #[.string ⟨#[]⟩] 4) 9)) (w.heap.size + 1 + 1) zs 0 from
    ⟨by rw [HLN.out]; exact hb.congr (fun j _ => by unfold txiAt; rw [if_neg (by omega)]), by omega, hA3⟩)
  have HNB := Lib.hid hn
  have HG := Lib.hid hG
  clear hG hA hA2 hA3 hn hb hx hv hc hz
  go_enter Tryz.func28, Tryz.ntmps28
  go_wp2_with fail
  clear hmk
  have HBE := Lib.hid (show w.heap.size + 1 ≠ w.heap.size + 1 + 1 by omega)
  generalize w.heap.size + 1 + 1 = B at *
  generalize World.alloc _ (.cells (madeCells #[.string ⟨#[]⟩] 4) 9) = w3 at *
  generalize hN : w.heap.size + 1 = N at *
  clear hN
  have HZS := Lib.hid hzs
  clear hzs
  go_loopw [23] (fun vi wr => ∃ k : Nat, vi = .int .i64 k ∧ k ≤ 4 ∧ TxiAt w wr B zs k ∧ wr.heap[N]? = some (.cells #[.int .i64 x, .int .i64 v, .int .i64 c, .int .i64 z] 3 (0, 0))) (fun vi _ => 4 - (intOf vi).toNat)
  case atStart => exact ⟨0, rfl, by omega, HT0.out, HNB.out⟩
  case round =>
    clear HT0 HNB
    obtain ⟨k, rfl, hk, hT, hN⟩ := hrel
    have HT := Lib.hid hT
    have HN := Lib.hid hN
    clear hT hN
    by_cases hlt : k < 4
    · have hcell : wr.cell? ⟨N, k, none⟩ = some (.int .i64 (ptAt zs k)) := by
        rw [cell_of_row _ _ k _ _ _ HN.out, HZS.out]
        match k, hlt with
        | 0, _ => rfl
        | 1, _ => rfl
        | 2, _ => rfl
        | 3, _ => rfl
      have hlN := own_lt0 HN.out
      obtain ⟨r0, r1⟩ := HR.out (ptAt zs k) (by unfold ptAt; rw [List.getD_eq_getElem?_getD, List.getElem?_eq_getElem (by rw [HLN.out]; exact hlt)]; exact List.getElem_mem _)
      have HNX := Lib.hid (fun wr' hO => HT.out.next (wr' := wr') hO)
      have HIT := Lib.hid (fun w hG => itoaI_any (ptAt zs k) w r0 r1 hG)
      have i1 : (k : Int) < 4 := by omega
      have i2 : 0 ≤ (k : Int) := by omega
      generalize ptAt zs k = n at *
      clear hk
      go_wp2_with fail
      refine (HIT.out _ (HG.out.only HT.out.only)).mono ?_
      rintro e w2 ⟨rfl, hO2⟩
      have HT2 := Lib.hid (HNX.out w2 hO2)
      have HN2 := Lib.hid ((Below.heap_setCell w2 ⟨B, k, none⟩ (.string (decI n)) N HBE.out).trans (row_still hO2 HN.out))
      have hrw := HT.out.row.of_block (hO2.block B HT.out.row.lt (fun e => e))
      have p0 := hrw.cell (i := k) (by rw [HLN.out]; exact hlt)
      have pf := hrw.frozen k
      have l0 := hrw.lt
      clear hO2 hcell HIT HNX hrw
      go_wp2
      go_roundw
      case rel => exact ⟨k + 1, by go_num, by omega, HT2.out, HN2.out⟩
      case measure => simp [intOf]; omega
    · obtain rfl : k = 4 := by omega
      have i1 : ¬ (4 : Int) < 4 := by omega
      have hcells : ∀ (j : Nat) x, (decsL zs)[j]? = some x → wr.cell? ⟨B, 0 + j, none⟩ = some (.string x) := fun j x hx => by
        unfold decsL at hx
        rw [List.getElem?_map, Option.map_eq_some_iff] at hx
        obtain ⟨z', hz', rfl⟩ := hx
        obtain ⟨hj, rfl⟩ := List.getElem?_eq_some_iff.1 hz'
        have := HT.out.row.cell (i := j) hj
        rw [Nat.zero_add, this]
        unfold txiAt
        rw [if_pos (by rw [← HLN.out]; exact hj)]
        simp [ptAt, List.getD, hj]
      have hsj := sjoin_many B 0 4 (decsL zs) ⟨#[32]⟩ wr hcells HT.out.row.lt (by rw [HDL.out]; decide) (by rw [HDL.out]; decide) (by rw [HDL.out]; decide) HJL.out
      rw [HDL.out, HJN.out] at hsj
      obtain ⟨tp, htp⟩ : ∃ tp, textP (x, v, c, z) = tp := ⟨_, rfl⟩
      rw [htp] at hsj
      have HTP := Lib.hid htp
      have HSJ := Lib.hid hsj
      clear hsj hcells hk hlt htp
      go_wp2_with fail
      refine HSJ.out.mono ?_
      rintro e w2 ⟨rfl, hb2⟩
      have HO2 := Lib.hid (HT.out.only.trans (Only.ofBelow hb2 _))
      clear hb2
      go_wp2
      go_ret
      exact ⟨by rw [HTP.out]; rfl, HO2.out⟩
end Go.Proofs.YtlhfgbkonmgahaaGreatDoor

namespace Go.Proofs.YtlhfgbkonmgahaaGreatDoor
open Go.RowKit

theorem ver_no {g a h b : Int} (c z : Int) {k : Nat} (hk : k < 4) (hf : memB (ptAt [g, a, h, b] k) = false) : verB g a h b c z = false := by
  unfold verB
  match k, hk, hf with
  | 0, _, hf => rw [show memB g = false from hf]; simp
  | 1, _, hf => rw [show memB a = false from hf]; simp
  | 2, _, hf => rw [show memB h = false from hf]; simp
  | 3, _, hf => rw [show memB b = false from hf]; simp
theorem ver_rng {g a h b c z : Int} (hr : rngB c z = false) : verB g a h b c z = false := by unfold verB; rw [hr]; simp
theorem rng_no {c z : Int} (h : c < 0 ∨ 1152921504606845789 ≤ c ∨ z < 0 ∨ 1152921504606845789 ≤ z) : rngB c z = false := by
  cases hr : rngB c z
  · rfl
  · obtain ⟨h1, h2⟩ := rngB_bd hr
    omega
theorem rng_yes {c z : Int} (h1 : ¬ c < 0) (h2 : ¬ 1152921504606845789 ≤ c) (h3 : ¬ z < 0) (h4 : ¬ 1152921504606845789 ≤ z) : rngB c z = true := by
  unfold rngB
  rw [decide_eq_false h1, decide_eq_false h3, decide_eq_false (show ¬ 1152921504606845788 < c by omega), decide_eq_false (show ¬ 1152921504606845788 < z by omega)]
  rfl
set_option maxRecDepth 100000 in
set_option maxHeartbeats 4000000 in
theorem rverify_any (g a h b c z : Int) (w : World) :
    Calls Tryz.prog 48 #[.int .i64 g, .int .i64 a, .int .i64 h, .int .i64 b, .agg #[.int .i64 c, .int .i64 z]] w fun e w' => e = .returned (.bool (verB g a h b c z)) ∧ Only (fun _ => False) w w' := by
  have HA := Lib.hid (((Only.refl (fun _ => False) w).alloc (.cells #[.int .i64 c, .int .i64 z] 28)).alloc (.cells #[.int .i64 g, .int .i64 a, .int .i64 h, .int .i64 b] 3))
  have HZ := Lib.hid ((Below.heap_alloc (w.alloc (.cells #[.int .i64 c, .int .i64 z] 28)) (.cells #[.int .i64 g, .int .i64 a, .int .i64 h, .int .i64 b] 3) w.heap.size (by simp)).trans (heap_alloc_last w _))
  have hp := pts_lit (w.alloc (.cells #[.int .i64 c, .int .i64 z] 28)) [g, a, h, b] 3 (by show 4 ≤ _; decide)
  have HP := Lib.hid (show PtsAt ((w.alloc (.cells #[.int .i64 c, .int .i64 z] 28)).alloc (.cells #[.int .i64 g, .int .i64 a, .int .i64 h, .int .i64 b] 3)).heap.size ((w.alloc (.cells #[.int .i64 c, .int .i64 z] 28)).alloc (.cells #[.int .i64 g, .int .i64 a, .int .i64 h, .int .i64 b] 3)) (.slice (some ⟨w.heap.size + 1, 0, none⟩) 4 4) [g, a, h, b] by
    simp only [World.size_alloc] at hp ⊢; exact hp)
  have HL := Lib.hid (show [g, a, h, b].length = 4 from rfl)
  clear hp
  go_enter Tryz.func48, Tryz.ntmps48
  go_wp2_with fail
  generalize hw0 : (w.alloc (.cells #[.int .i64 c, .int .i64 z] 28)).alloc (.cells #[.int .i64 g, .int .i64 a, .int .i64 h, .int .i64 b] 3) = w0 at *
  clear hw0
  generalize hblk : w.heap.size = blk at *
  go_loopw [12, 13] (fun vi _ wr => ∃ k : Nat, vi = .int .i64 k ∧ k ≤ 4 ∧ (∀ j, j < k → memB (ptAt [g, a, h, b] j) = true) ∧ Only (fun _ => False) w0 wr) (fun vi _ _ => 4 - (intOf vi).toNat)
  case atStart => exact ⟨0, rfl, by omega, fun j h => by omega, Only.refl _ _⟩
  case round =>
    obtain ⟨k, rfl, hk, hall, hO⟩ := hrel
    have HO := Lib.hid hO
    have HALL := Lib.hid hall
    have HZ1 := Lib.hid (row_still hO HZ.out)
    have HP1 := Lib.hid (HP.out.only hO)
    clear hO hall
    by_cases hlt : k < 4
    · obtain ⟨B, off, hBe, hb, hc1, hc2, hcell⟩ := HP1.out.cellAt (k := k) (show k < [g, a, h, b].length from hlt)
      cases hBe
      obtain ⟨mm, hmm⟩ : ∃ mm, memB (ptAt [g, a, h, b] k) = mm := ⟨_, rfl⟩
      have HM := Lib.hid (fun w => rmember_is (ptAt [g, a, h, b] k) mm w hmm)
      have HNO := Lib.hid (fun hf : mm = false => ver_no (g := g) (a := a) (h := h) (b := b) c z hlt (hmm.trans hf))
      have HYS := Lib.hid (fun hf : mm = true => (show ∀ j, j < k + 1 → memB (ptAt [g, a, h, b] j) = true from fun j hj => by
        by_cases e : j = k
        · rw [e]; exact hmm.trans hf
        · exact HALL.out j (by omega)))
      clear hmm
      generalize ptAt [g, a, h, b] k = x at *
      simp only [Nat.zero_add] at hcell
      go_wp2_with fail
      refine (HM.out _).mono ?_
      rintro e w2 ⟨rfl, rfl⟩
      cases mm
      · go_wp2
        go_ret
        exact ⟨by rw [HNO.out (by simp)]; rfl, HA.out.trans HO.out⟩
      · go_wp2
        exact ⟨⟨k + 1, by go_num, by omega, HYS.out (by simp), HO.out⟩, by simp [intOf]; omega⟩
    · obtain rfl : k = 4 := by omega
      have hg : memB g = true := HALL.out 0 (by omega)
      have ha : memB a = true := HALL.out 1 (by omega)
      have hh : memB h = true := HALL.out 2 (by omega)
      have hbb : memB b = true := HALL.out 3 (by omega)
      have e0 : _ = some (Value.int .i64 c) := cell_of_row _ _ 0 _ _ _ HZ1.out
      have e1 : _ = some (Value.int .i64 z) := cell_of_row _ _ 1 _ _ _ HZ1.out
      have HO1 := Lib.hid (HA.out.trans HO.out)
      have HV := Lib.hid (show rngB c z = true → verB g a h b c z = (c == wscZ wEq (vNums g a h b c z)) from fun hr => by
        unfold verB; rw [hg, ha, hh, hbb, hr]; simp)
      have HN := Lib.hid (vNums_nats c z hg ha hh hbb)
      clear hg ha hh hbb HALL HP1 HP HZ HA HO hlt hk
      by_cases q1 : c < 0
      · have HF := Lib.hid (ver_rng (g := g) (a := a) (h := h) (b := b) (rng_no (c := c) (z := z) (.inl q1)))
        go_wp2
        go_ret
        exact ⟨by rw [HF.out]; rfl, HO1.out⟩
      · by_cases q2 : 1152921504606845789 ≤ c
        · have HF := Lib.hid (ver_rng (g := g) (a := a) (h := h) (b := b) (rng_no (c := c) (z := z) (.inr (.inl q2))))
          go_wp2
          go_ret
          exact ⟨by rw [HF.out]; rfl, HO1.out⟩
        · by_cases q3 : z < 0
          · have HF := Lib.hid (ver_rng (g := g) (a := a) (h := h) (b := b) (rng_no (c := c) (z := z) (.inr (.inr (.inl q3)))))
            go_wp2
            go_ret
            exact ⟨by rw [HF.out]; rfl, HO1.out⟩
          · by_cases q4 : 1152921504606845789 ≤ z
            · have HF := Lib.hid (ver_rng (g := g) (a := a) (h := h) (b := b) (rng_no (c := c) (z := z) (.inr (.inr (.inr q4)))))
              go_wp2
              go_ret
              exact ⟨by rw [HF.out]; rfl, HO1.out⟩
            · have hr := rng_yes q1 q2 q3 q4
              obtain ⟨hc, hz⟩ := rngB_bd hr
              have HV2 := Lib.hid (HV.out hr)
              have HNE := Lib.hid (show vNums g a h b c z = [g, a, h, b, sideZ g a c z, sideZ h b c z] from rfl)
              generalize vNums g a h b c z = ns at *
              have HKS := Lib.hid (show ∀ W, Only (fun _ => False) wr W → W.cell? ⟨blk, 0, none⟩ = some (.int .i64 c) ∧ W.cell? ⟨blk, 1, none⟩ = some (.int .i64 z) ∧ Only (fun _ => False) wr W from fun W h => ⟨h.cell e0 id, h.cell e1 id, h⟩)
              have HSD := Lib.hid (show ∀ base pw W, (W.cell? ⟨blk, 0, none⟩ = some (.int .i64 c) ∧ W.cell? ⟨blk, 1, none⟩ = some (.int .i64 z) ∧ Only (fun _ => False) wr W) →
                  Calls Tryz.prog 81 #[.int .i64 base, .int .i64 pw, .agg #[.int .i64 c, .int .i64 z]] W (fun e wT => e = .returned (.int .i64 (sideZ base pw c z)) ∧ (wT.cell? ⟨blk, 0, none⟩ = some (.int .i64 c) ∧ wT.cell? ⟨blk, 1, none⟩ = some (.int .i64 z) ∧ Only (fun _ => False) wr wT)) from fun base pw W h => (rside_any base pw c z W hc hz).mono fun _ _ k => ⟨k.1, HKS.out _ (h.2.2.trans k.2)⟩)
              have HES := Lib.hid (show ∀ W, (W.cell? ⟨blk, 0, none⟩ = some (.int .i64 c) ∧ W.cell? ⟨blk, 1, none⟩ = some (.int .i64 z) ∧ Only (fun _ => False) wr W) →
                  Calls Tryz.prog 25 #[.slice (some ⟨W.heap.size, 0, none⟩) 6 6] (W.alloc (.cells #[.int .i64 g, .int .i64 a, .int .i64 h, .int .i64 b, .int .i64 (sideZ g a c z), .int .i64 (sideZ h b c z)] 3)) (fun e wT => e = .returned (.int .i64 (wscZ wEq ns)) ∧ (wT.cell? ⟨blk, 0, none⟩ = some (.int .i64 c) ∧ wT.cell? ⟨blk, 1, none⟩ = some (.int .i64 z) ∧ Only (fun _ => False) wr wT)) from fun W hS => by
                have hP := pts_lit W [g, a, h, b, sideZ g a c z, sideZ h b c z] 3 (by show 6 ≤ _; decide)
                have := rchal_any _ _ _ _ hP (by rw [← HNE.out]; exact HN.out) (by show 6 ≤ _; decide)
                rw [HNE.out]
                exact Calls.mono this fun _ _ k => ⟨k.1, HKS.out _ ((hS.2.2.alloc _).trans k.2)⟩)
              have HR := Lib.hid hr
              clear hc hz hr HN HNE HV HZ1
              go_wp2_with fail
              obtain ⟨m, hm⟩ : ∃ m, wscZ wEq ns = m := ⟨_, rfl⟩
              rw [hm] at HES HV2
              clear hm
              go_region_held3 (fun w' => w'.cell? ⟨blk, 0, none⟩ = some (.int .i64 c) ∧ w'.cell? ⟨blk, 1, none⟩ = some (.int .i64 z) ∧ Only (fun _ => False) wr w')
                (first
                  | with_reducible exact HKS.out _ ((Only.refl _ wr).drew)
                  | with_reducible exact hS1
                  | with_reducible exact hS2
                  | exact HKS.out _ (hS1.2.2.alloc _))
                (first
                  | (go_at_call 81; with_reducible refine (HSD.out _ _ _ (by assumption)).mono ?_; rintro e wK ⟨rfl, hS1⟩)
                  | (go_at_call 25; with_reducible refine (HES.out _ hS1).mono ?_; rintro e wN ⟨rfl, hS2⟩))
              clear HES HSD HKS
              go_wp2_with fail
              go_ret
              exact ⟨by rw [HV2.out]; rfl, HO1.out.trans hS2.2.2⟩
end Go.Proofs.YtlhfgbkonmgahaaGreatDoor

namespace Go.Proofs.YtlhfgbkonmgahaaGreatDoor
open Go.RowKit

theorem rexp6_any (n : Int) (w : World) : Calls Tryz.prog 10 #[.int .i64 n] w fun e w' => e = .returned (.int .i64 (n % 1152921504606845789)) ∧ w = w' := by
  have HF := Lib.hid (tmod_fix n 1152921504606845789 (by decide))
  have h1 := Int.lt_tmod_of_pos n (show (0 : Int) < 1152921504606845789 by decide)
  have h2 := Int.tmod_lt_of_pos n (show (0 : Int) < 1152921504606845789 by decide)
  by_cases h0 : n.tmod 1152921504606845789 < 0
  · go_enter Tryz.func10, Tryz.ntmps10
    go_wp2
    go_ret
    exact ⟨ret_int (by rw [← HF.out, if_pos h0]), rfl⟩
  · go_enter Tryz.func10, Tryz.ntmps10
    go_wp2
    go_ret
    exact ⟨ret_int (by rw [← HF.out, if_neg (by omega)]), rfl⟩
theorem Tryz.infoPr : (Tryz.prog.info? 28).map (·.size) = some 2 := by kernel_rfl
theorem pr_one (a b : Int) : (#[Value.int .i64 a, .int .i64 b] : Array Value).all (·.oneCell') = true := by simp [Value.oneCell']
set_option maxRecDepth 100000 in
set_option maxHeartbeats 2000000 in
theorem rprovewith_any (secret g h : Int) (w : World) (hg : memB g = true) (hh : memB h = true) :
    Calls Tryz.prog 74 #[.int .i64 secret, .int .i64 g, .int .i64 h, .int .i64 (pfK (secret % 1152921504606845789) g h)] w fun e w' => e = .returned (.agg #[.int .i64 (pfC (secret % 1152921504606845789) g h), .int .i64 (pfZ (secret % 1152921504606845789) g h)]) ∧ Only (fun _ => False) w w' := by
  have HX := Lib.hid (fun w => rexp6_any secret w)
  obtain ⟨x0, x1⟩ := emod_self_lt secret 1152921504606845789 (by decide)
  generalize secret % 1152921504606845789 = x at *
  have HNT := Lib.hid (pfB_nats (x := x) hg hh)
  have HNE := Lib.hid (show pfNums x g h = [g, powM g x 2305843009213691579, h, powM h x 2305843009213691579, powM g (pfK x g h) 2305843009213691579, powM h (pfK x g h) 2305843009213691579] from rfl)
  have HCE := Lib.hid (show pfC x g h = wscZ wEq (pfNums x g h) from rfl)
  have HZE := Lib.hid (show pfZ x g h = (pfK x g h + pfC x g h * x % 1152921504606845789) % 1152921504606845789 from rfl)
  obtain ⟨k0, k1⟩ : 0 ≤ pfK x g h ∧ pfK x g h < 1152921504606845789 := wscZ_bd _ _
  obtain ⟨c0, c1⟩ : 0 ≤ pfC x g h ∧ pfC x g h < 1152921504606845789 := wscZ_bd _ _
  generalize pfZ x g h = z at *
  generalize pfK x g h = k at *
  have HP1 := Lib.hid (fun w => rpower_any g x w x0 (by omega))
  have HP2 := Lib.hid (fun w => rpower_any h x w x0 (by omega))
  have HP3 := Lib.hid (fun w => rpower_any g k w k0 (by omega))
  have HP4 := Lib.hid (fun w => rpower_any h k w k0 (by omega))
  generalize powM g x 2305843009213691579 = a1 at *
  generalize powM h x 2305843009213691579 = a2 at *
  generalize powM g k 2305843009213691579 = a3 at *
  generalize powM h k 2305843009213691579 = a4 at *
  have hA := (Only.refl (fun _ => False) w).alloc (.cells #[.int .i64 0, .int .i64 0] 28)
  have HZ0 := Lib.hid (heap_alloc_last w (.cells #[.int .i64 0, .int .i64 0] 28))
  have hP := pts_lit (w.alloc (.cells #[.int .i64 0, .int .i64 0] 28)) [g, a1, h, a2, a3, a4] 3 (by show 6 ≤ _; decide)
  rw [HNE.out] at HNT HCE
  have HCH := Lib.hid (rchal_any _ _ _ _ hP HNT.out (by show 6 ≤ _; decide))
  rw [← HCE.out] at HCH
  rw [World.size_alloc] at HCH
  have HOA := Lib.hid (hA.alloc (.cells #[.int .i64 g, .int .i64 a1, .int .i64 h, .int .i64 a2, .int .i64 a3, .int .i64 a4] 3))
  have HZ1 := Lib.hid (row_still ((Only.refl (fun _ => False) _).alloc (.cells #[.int .i64 g, .int .i64 a1, .int .i64 h, .int .i64 a2, .int .i64 a3, .int .i64 a4] 3)) HZ0.out)
  generalize pfC x g h = c at *
  have HM := Lib.hid (fun w => rmul_any c x 1152921504606845789 w (by decide) (by decide))
  generalize c * x % 1152921504606845789 = cx at *
  have HAD := Lib.hid (fun w => radd_any k cx 1152921504606845789 w (by decide) (by decide))
  clear hg hh hA hP HNT HNE HCE
  rw [← HZE.out] at HAD
  go_enter Tryz.func74, Tryz.ntmps74
  go_wp2_with fail
  refine (HX.out _).mono ?_
  rintro e w1 ⟨rfl, rfl⟩
  go_wp2_with fail
  refine (HP1.out _).mono ?_
  rintro e w1 ⟨rfl, rfl⟩
  go_wp2_with fail
  refine (HP2.out _).mono ?_
  rintro e w1 ⟨rfl, rfl⟩
  go_wp2_with fail
  refine (HP3.out _).mono ?_
  rintro e w1 ⟨rfl, rfl⟩
  go_wp2_with fail
  refine (HP4.out _).mono ?_
  rintro e w1 ⟨rfl, rfl⟩
  go_wp2_with fail
  refine HCH.out.mono ?_
  rintro e w2 ⟨rfl, hO2⟩
  have HO2 := Lib.hid (HOA.out.trans hO2)
  have HZ2 := Lib.hid (row_still hO2 HZ1.out)
  clear hO2
  go_wp2_with fail
  refine (HM.out _).mono ?_
  rintro e w1 ⟨rfl, rfl⟩
  go_wp2_with fail
  refine (HAD.out _).mono ?_
  rintro e w1 ⟨rfl, rfl⟩
  go_wp2_with (first | (refine wpList_store_row rfl 28 _ _ rfl w.heap.size #[.int .i64 c, .int .i64 z] rfl rfl 28 _ HZ2.out Tryz.infoPr rfl (pr_one _ _) ?_))
  exact bodyPost_ret (v := .agg #[.int .i64 c, .int .i64 z]) (results_cell_row rfl _ _ w.heap.size 28 #[.int .i64 c, .int .i64 z] (0, 0) _ rfl (setRow_heap _ _ _ _ _ _ HZ2.out) Tryz.underlying28 rfl Tryz.infoPr) rfl ⟨rfl, HO2.out.setRow (Nat.le_refl _) _⟩
set_option maxRecDepth 100000 in
set_option maxHeartbeats 2000000 in
theorem rprove_any (secret g h : Int) (w : World) (hg : memB g = true) (hh : memB h = true) :
    Calls Tryz.prog 39 #[.int .i64 secret, .int .i64 g, .int .i64 h] w fun e w' => e = .returned (.agg #[.int .i64 (pfC (secret % 1152921504606845789) g h), .int .i64 (pfZ (secret % 1152921504606845789) g h)]) ∧ Only (fun _ => False) w w' := by
  have HX := Lib.hid (fun w => rexp6_any secret w)
  have HPW := Lib.hid (fun w => rprovewith_any secret g h w hg hh)
  obtain ⟨x0, x1⟩ := emod_self_lt secret 1152921504606845789 (by decide)
  generalize secret % 1152921504606845789 = x at *
  have HM1 := Lib.hid (fun w => rmember_is g true w hg)
  have HM2 := Lib.hid (fun w => rmember_is h true w hh)
  have HNT := Lib.hid (pfA_nats (x := x) ⟨x0, x1⟩ hg hh)
  have hA := (Only.refl (fun _ => False) w).alloc (.cells #[.int .i64 0, .int .i64 0] 28)
  have HZ0 := Lib.hid (heap_alloc_last w (.cells #[.int .i64 0, .int .i64 0] 28))
  have hP := pts_lit (w.alloc (.cells #[.int .i64 0, .int .i64 0] 28)) [x, g, h] 3 (by show 3 ≤ _; decide)
  have HJ := Lib.hid (rjoined_any _ _ _ _ hP HNT.out (by show 3 ≤ _; decide))
  rw [World.size_alloc] at HJ
  have hjs : (joinN [x, g, h]).size ≤ 2200 := by have := joinN_size _ HNT.out; simp only [List.length_cons, List.length_nil] at this; omega
  have HOA := Lib.hid (hA.alloc (.cells #[.int .i64 x, .int .i64 g, .int .i64 h] 3))
  have HZ1 := Lib.hid (row_still ((Only.refl (fun _ => False) _).alloc (.cells #[.int .i64 x, .int .i64 g, .int .i64 h] 3)) HZ0.out)
  have HSC := Lib.hid (fun w => rscalar_any ((⟨#[110, 111, 110, 99, 101, 47]⟩ : ByteArray) ++ joinN [x, g, h]) w (by rw [ByteArray.size_append]; show 6 + _ ≤ _; omega))
  have HKE := Lib.hid (show scalarZ ((⟨#[110, 111, 110, 99, 101, 47]⟩ : ByteArray) ++ joinN [x, g, h]) = pfK x g h from rfl)
  rw [HKE.out] at HSC
  generalize pfK x g h = k at *
  generalize pfC x g h = c at *
  generalize pfZ x g h = z at *
  generalize joinN [x, g, h] = J at *
  clear hg hh hA hP HNT HKE
  go_enter Tryz.func39, Tryz.ntmps39
  go_wp2_with fail
  refine (HM1.out _).mono ?_
  rintro e w1 ⟨rfl, rfl⟩
  go_wp2_with fail
  refine (HM2.out _).mono ?_
  rintro e w1 ⟨rfl, rfl⟩
  go_wp2_with fail
  refine (HX.out _).mono ?_
  rintro e w1 ⟨rfl, rfl⟩
  go_wp2_with fail
  refine HJ.out.mono ?_
  rintro e w2 ⟨rfl, hO2⟩
  have HO2 := Lib.hid (HOA.out.trans hO2)
  have HZ2 := Lib.hid (row_still hO2 HZ1.out)
  clear hO2 HZ0 HZ1 HOA HJ
  go_wp2_with fail
  refine (HSC.out _).mono ?_
  rintro e w3 ⟨rfl, hO3⟩
  have HO3 := Lib.hid (HO2.out.trans hO3)
  have HZ3 := Lib.hid (row_still hO3 HZ2.out)
  clear hO3 HZ2 HO2
  go_wp2_with fail
  refine (HPW.out _).mono ?_
  rintro e w4 ⟨rfl, hO4⟩
  have HO4 := Lib.hid (HO3.out.trans hO4)
  have HZ4 := Lib.hid (row_still hO4 HZ3.out)
  clear hO4
  go_wp2_with (first | (refine wpList_store_row rfl 28 _ _ rfl w.heap.size #[.int .i64 c, .int .i64 z] rfl rfl 28 _ HZ4.out Tryz.infoPr rfl (pr_one _ _) ?_))
  exact bodyPost_ret (v := .agg #[.int .i64 c, .int .i64 z]) (results_cell_row rfl _ _ w.heap.size 28 #[.int .i64 c, .int .i64 z] (0, 0) _ rfl (setRow_heap _ _ _ _ _ _ HZ4.out) Tryz.underlying28 rfl Tryz.infoPr) rfl ⟨rfl, HO4.out.setRow (Nat.le_refl _) _⟩
end Go.Proofs.YtlhfgbkonmgahaaGreatDoor

namespace Go.Proofs.YtlhfgbkonmgahaaGreatDoor
open Go.RowKit

set_option maxHeartbeats 1000000 in
theorem rtext6_any (c z : Int) (w : World) (hc : -9223372036854775808 ≤ c ∧ c ≤ 9223372036854775807) (hz : -9223372036854775808 ≤ z ∧ z ≤ 9223372036854775807) :
    Calls Tryz.prog 68 #[.agg #[.int .i64 c, .int .i64 z]] w fun e w' => e = .returned (.string (decI c ++ (⟨#[46]⟩ : ByteArray) ++ decI z)) ∧ Only (fun _ => False) w w' := by
  have HA := Lib.hid ((Only.refl (fun _ => False) w).alloc (.cells #[.int .i64 c, .int .i64 z] 28))
  have hz0 := heap_alloc_last w (.cells #[.int .i64 c, .int .i64 z] 28)
  have e0 : _ = some (Value.int .i64 c) := cell_of_row _ _ 0 _ _ _ hz0
  have e1 : _ = some (Value.int .i64 z) := cell_of_row _ _ 1 _ _ _ hz0
  have H1 := Lib.hid (fun w => rdecI6_any c w hc.1 hc.2)
  have H2 := Lib.hid (fun w => rdecI6_any z w hz.1 hz.2)
  have s1 := decI_size hc.1 hc.2
  have s2 := decI_size hz.1 hz.2
  clear hz0
  generalize decI c = D at *
  generalize decI z = E at *
  have s3 : (D ++ (⟨#[46]⟩ : ByteArray)).size ≤ 22 := by rw [ByteArray.size_append]; show _ + 1 ≤ _; omega
  go_enter Tryz.func68, Tryz.ntmps68
  go_wp2_with fail
  generalize w.heap.size = blk at *
  generalize w.alloc (.cells #[.int .i64 c, .int .i64 z] 28) = w1 at *
  have y0 := fun (d : Nat) (os : Array Obj) => cell_regrown e0 d os
  have y1 := fun (d : Nat) (os : Array Obj) => cell_regrown e1 d os
  clear e0 e1
  refine wp_region_quiet_below (by kernel_rfl) (by kernel_rfl) ?_
  repeat (go_big_quiet_step ((first | (go_at_call 84; with_reducible exact Calls.regrown_of ((H1.out _).mono fun _ _ h => ⟨h.1, h.2.below (Nat.le_refl _) (fun _ _ h => h)⟩)) | (go_at_call 84; with_reducible exact Calls.regrown_of ((H2.out _).mono fun _ _ h => ⟨h.1, h.2.below (Nat.le_refl _) (fun _ _ h => h)⟩)))))
  refine wpQuiet_nil ?_
  intro w2 hw'
  obtain ⟨pq, hw''⟩ := hw'
  have HO := Lib.hid (HA.out.trans (Only.ofBelow (below_regrown w1 pq.d pq.os) (fun _ => False)))
  rw [← hw''] at HO
  clear hw'' y0 y1
  go_wp2
  go_ret
  exact ⟨rfl, HO.out⟩
theorem cut_two (D : ByteArray) : (D ++ (⟨#[46]⟩ : ByteArray) ++ (⟨#[48]⟩ : ByteArray)).extract 0 D.size = D := by
  apply ByteArray.ext
  simp
set_option maxHeartbeats 1000000 in
theorem rdec9_any (n : Int) (w : World) (h0 : -9223372036854775808 ≤ n) (h1 : n ≤ 9223372036854775807) :
    Calls Tryz.prog 36 #[.int .i64 n] w fun e w' => e = .returned (.string (decI n)) ∧ Only (fun _ => False) w w' := by
  have HT := Lib.hid (fun w => rtext6_any n 0 w ⟨h0, h1⟩ ⟨by decide, by decide⟩)
  have hs := decI_size h0 h1
  have e0 : decI 0 = ⟨#[48]⟩ := by
    have := decI_nat 0
    rw [show ((0 : Nat) : Int) = 0 from rfl] at this
    rw [this]
    unfold decB
    rw [Lib.decDigits_one (by decide)]
    rfl
  have HC := Lib.hid (cut_two (decI n))
  rw [e0] at HT
  have hz : (decI n ++ (⟨#[46]⟩ : ByteArray) ++ (⟨#[48]⟩ : ByteArray)).size = (decI n).size + 2 := by rw [ByteArray.size_append, ByteArray.size_append]; rfl
  clear e0
  generalize decI n ++ (⟨#[46]⟩ : ByteArray) ++ (⟨#[48]⟩ : ByteArray) = S at *
  have k1 : (S.size : Int) - 2 = ((decI n).size : Nat) := by omega
  have k2 : 2 ≤ S.size := by omega
  have k3 : S.size ≤ 23 := by omega
  have HK := Lib.hid k1
  clear k1 hz
  generalize decI n = D at *
  go_enter Tryz.func36, Tryz.ntmps36
  go_wp2_with fail
  refine (HT.out _).mono ?_
  rintro e w1 ⟨rfl, hO1⟩
  have HO1 := Lib.hid hO1
  clear hO1
  go_wp2
  go_ret
  exact ⟨by
    have := HK.out
    rw [show S.size - 2 = D.size by omega, HC.out]
    rfl, HO1.out⟩
set_option maxHeartbeats 1000000 in
theorem rbase9_any (r : Int) (w : World) (h0 : -9223372036854775808 ≤ r) (h1 : r ≤ 9223372036854775807) :
    Calls Tryz.prog 12 #[.int .i64 r] w fun e w' => e = .returned (.int .i64 (baseZ r)) ∧ Only (fun _ => False) w w' := by
  have HI := Lib.hid (rdec9_any r w h0 h1)
  have hs := decI_size h0 h1
  have HE := Lib.hid (fun w => relement_any (roundS r) w (by have := roundS_size h0 h1; omega))
  obtain ⟨E, hE⟩ : ∃ E, elemZ (roundS r) = E := ⟨_, rfl⟩
  rw [hE] at HE
  have HB := Lib.hid (show baseZ r = E from hE)
  unfold roundS at HE
  clear hE
  rw [HB.out]
  generalize decI r = D at *
  go_enter Tryz.func12, Tryz.ntmps12
  go_wp2_with fail
  refine HI.out.mono ?_
  rintro e w1 ⟨rfl, hO1⟩
  have HO1 := Lib.hid hO1
  clear hO1 HI
  go_wp2_with fail
  refine (HE.out _).mono ?_
  rintro e w2 ⟨rfl, hO2⟩
  have HO2 := Lib.hid (HO1.out.trans hO2)
  clear hO2
  go_wp2
  go_ret
  exact ⟨rfl, HO2.out⟩
set_option maxRecDepth 100000 in
set_option maxHeartbeats 2000000 in
theorem reval9_any (x y r : Int) (w : World) (h0 : -9223372036854775808 ≤ r) (h1 : r ≤ 9223372036854775807) :
    Calls Tryz.prog 14 #[.agg #[.int .i64 x, .int .i64 y], .int .i64 r] w fun e w' => e = .returned (.agg #[.int .i64 (evalV x y r).1, .int .i64 (evalV x y r).2.1, .int .i64 (evalV x y r).2.2.1, .int .i64 (evalV x y r).2.2.2]) ∧ Only (fun _ => False) w w' := by
  have hA := ((Only.refl (fun _ => False) w).alloc (.cells #[.int .i64 x, .int .i64 y] 23)).alloc (.cells #[.int .i64 0, .int .i64 0, .int .i64 0, .int .i64 0] 30)
  have hz1 := heap_alloc_last (w.alloc (.cells #[.int .i64 x, .int .i64 y] 23)) (.cells #[.int .i64 0, .int .i64 0, .int .i64 0, .int .i64 0] 30)
  have hz0 := (Below.heap_alloc (w.alloc (.cells #[.int .i64 x, .int .i64 y] 23)) (.cells #[.int .i64 0, .int .i64 0, .int .i64 0, .int .i64 0] 30) w.heap.size (by simp)).trans (heap_alloc_last w _)
  rw [World.size_alloc] at hz1
  have HA := Lib.hid hA
  have HZ1 := Lib.hid hz1
  have HZ0 := Lib.hid hz0
  have f0 : _ = some (Value.int .i64 x) := cell_of_row _ _ 0 _ _ _ hz0
  have f1 : _ = some (Value.int .i64 y) := cell_of_row _ _ 1 _ _ _ hz0
  clear hA hz0 hz1
  by_cases hr : inRng x y = true
  · obtain ⟨⟨x1, x2⟩, y1, y2⟩ := inRng_parts hr
    have HV := Lib.hid (show evalV x y r = (x, powM (baseZ r) y 2305843009213691579, pfC y 4 (baseZ r), pfZ y 4 (baseZ r)) by unfold evalV; rw [if_pos hr])
    have HB := Lib.hid (fun w => rbase9_any r w h0 h1)
    have HM := Lib.hid (base_mem r)
    rw [HV.out]
    clear HV hr
    generalize baseZ r = b at *
    have HPW := Lib.hid (fun w => rpow_any b y 2305843009213691579 w (by decide) (by decide) y1 (by omega))
    have HPR := Lib.hid (fun w => rprove_any y 4 b w memFour HM.out)
    rw [Int.emod_eq_of_lt y1 y2] at HPR
    generalize pfC y 4 b = c at *
    generalize pfZ y 4 b = z at *
    generalize powM b y 2305843009213691579 = pw at *
    have i1 : ¬ x < 1 := by omega
    have i2 : ¬ 60 < x := by omega
    have i3 : ¬ y < 0 := by omega
    have i4 : ¬ 1152921504606845789 ≤ y := by omega
    go_enter Tryz.func14, Tryz.ntmps14
    go_wp2_with fail
    generalize hblk : w.heap.size = blk at *
    generalize (w.alloc (.cells #[.int .i64 x, .int .i64 y] 23)).alloc (.cells #[.int .i64 0, .int .i64 0, .int .i64 0, .int .i64 0] 30) = w1 at *
    refine (HB.out _).mono ?_
    rintro e w2 ⟨rfl, hO2⟩
    have HZ2 := Lib.hid (row_still hO2 HZ1.out)
    have e0 : _ = some (Value.int .i64 x) := cell_of_row _ _ 0 _ _ _ (row_still hO2 HZ0.out)
    have e1 : _ = some (Value.int .i64 y) := cell_of_row _ _ 1 _ _ _ (row_still hO2 HZ0.out)
    have HO2 := Lib.hid (HA.out.trans hO2)
    have HBK := Lib.hid hblk
    clear hO2 HZ1 HZ0 HA f0 f1 HB hblk
    go_wp2_with fail
    have y0 := fun (d : Nat) (os : Array Obj) => cell_regrown e0 d os
    have y1' := fun (d : Nat) (os : Array Obj) => cell_regrown e1 d os
    clear e0 e1
    refine wp_region_below_split2 10 (by kernel_rfl) (by kernel_rfl) (by kernel_rfl) ?_
    simp only [List.take_succ_cons, List.take_zero, List.drop_succ_cons, List.drop_zero]
    repeat (go_big_quiet_step ((first | (go_at_call 38; exact Calls.regrown_of ((HPW.out _).mono fun _ _ h => ⟨h.1, by rw [← h.2]; exact Below.refl _ _⟩)) | (go_at_call 39; exact Calls.regrown_of ((HPR.out _).mono fun _ _ h => ⟨h.1, h.2.below (Nat.le_refl _) (fun _ _ h => h)⟩)))))
    refine wpQuiet_nil ?_
    intro w3 hw'
    obtain ⟨pq, hw''⟩ := hw'
    have HO23 := Lib.hid (Only.ofBelow (below_regrown w2 pq.d pq.os) (fun _ => False))
    rw [← hw''] at HO23
    have HO := Lib.hid (HO2.out.trans HO23.out)
    have HZ3 := Lib.hid (row_still HO23.out HZ2.out)
    clear hw'' y0 y1'
    go_wp2_with (first | (refine wpList_store_row rfl 30 _ _ rfl (blk + 1) #[.int .i64 x, .int .i64 pw, .int .i64 c, .int .i64 z] rfl rfl 30 _ HZ3.out Tryz.infoPt rfl (pt_one _ _ _ _) ?_))
    exact bodyPost_ret (v := .agg #[.int .i64 x, .int .i64 pw, .int .i64 c, .int .i64 z]) (results_cell_row rfl _ _ (blk + 1) 30 #[.int .i64 x, .int .i64 pw, .int .i64 c, .int .i64 z] (0, 0) _ rfl (setRow_heap _ _ _ _ _ _ HZ3.out) Tryz.underlying30 rfl Tryz.infoPt) rfl ⟨rfl, HO.out.setRow (by have := HBK.out; omega) _⟩
  · have HV := Lib.hid (show evalV x y r = (0, 0, 0, 0) by unfold evalV; rw [if_neg hr])
    have hr2 : x < 1 ∨ (1 ≤ x ∧ 60 < x) ∨ (1 ≤ x ∧ x ≤ 60 ∧ y < 0) ∨ (1 ≤ x ∧ x ≤ 60 ∧ 0 ≤ y ∧ 1152921504606845789 ≤ y) := by
      unfold inRng at hr
      simp only [Bool.and_eq_true, decide_eq_true_eq] at hr
      omega
    rw [HV.out]
    clear hr
    rcases hr2 with h | ⟨g1, h⟩ | ⟨g1, g2, h⟩ | ⟨g1, g2, g3, h⟩
    all_goals (go_enter Tryz.func14, Tryz.ntmps14)
    all_goals (go_wp2_with (first | (refine wpList_store_row rfl 30 _ _ rfl (w.heap.size + 1) #[.int .i64 0, .int .i64 0, .int .i64 0, .int .i64 0] rfl rfl 30 _ HZ1.out Tryz.infoPt rfl (pt_one _ _ _ _) ?_)))
    all_goals (exact bodyPost_ret (v := .agg #[.int .i64 0, .int .i64 0, .int .i64 0, .int .i64 0]) (results_cell_row rfl _ _ (w.heap.size + 1) 30 #[.int .i64 0, .int .i64 0, .int .i64 0, .int .i64 0] (0, 0) _ rfl (setRow_heap _ _ _ _ _ _ HZ1.out) Tryz.underlying30 rfl Tryz.infoPt) rfl ⟨rfl, HA.out.setRow (by omega) _⟩)
end Go.Proofs.YtlhfgbkonmgahaaGreatDoor

namespace Go.Proofs.YtlhfgbkonmgahaaGreatDoor
open Go.RowKit

set_option maxRecDepth 100000 in
set_option maxHeartbeats 4000000 in
theorem divide_any (sv : Value) (l : List Pt4) (bk br : Nat) (ac ap : Option Addr) (cc cp : Nat) (cm : List Int) (rows : List (List Int)) (r : Int) (w : World) (hL : P4sAt w sv l) (hlen : l.length ≤ 1000000)
    (hC : PtsAt w.heap.size w (.slice ac cm.length cc) cm) (hR : GridAt w (.slice ap rows.length cp) rows)
    (hs : ∀ k, k ≤ rows.length → gridTo rows k ≤ 1000000) (hcm : cm.length ≤ 1000000) (h0 : -9223372036854775808 ≤ r) (h1 : r ≤ 9223372036854775807) (hG : Glob w)
    (hk : w.heap[bk]? = some (.cells #[.slice ac cm.length cc, .slice ap rows.length cp] 41 (0, 0))) (hr : w.heap[br]? = some (.cells #[.int .i64 r] 3 (0, 0))) :
    Calls Tryz.prog 52 #[sv, .func (.func 53) #[] #[.pointer (some ⟨bk, 0, none⟩), .pointer (some ⟨br, 0, none⟩)]] w fun e w' =>
      ∃ v u, e = .returned (.tuple #[v, u]) ∧ Two4 w.heap.size w' v u (goodL (gridN rows : Nat) cm r l) (badL (gridN rows : Nat) cm r l) ∧ Only (fun _ => False) w w' := by
  obtain ⟨i0, hi0, hz0, hz1, hz2⟩ := info_parts Tryz.infoP4
  obtain ⟨a, cap, rfl⟩ := hL.slice
  have HL := Lib.hid hL
  have HCC := Lib.hid (fun (W : World) (hW : Only (fun _ => False) w W) x v c z => comb1_any bk br ac ap cc cp cm rows r x v c z W (hC.only hW) (hR.only hW) hs hcm h0 h1 (hG.only hW) (row_still hW hk) (row_still hW hr))
  clear hL hC hR hG hk hr
  obtain ⟨acc, hacc⟩ : ∃ acc, acB (gridN rows : Nat) cm r = acc := ⟨_, rfl⟩
  have HGL := Lib.hid (show goodL (gridN rows : Nat) cm r l = (l.take l.length).filter acc by rw [List.take_length, ← hacc]; rfl)
  have HBL := Lib.hid (show badL (gridN rows : Nat) cm r l = (l.take l.length).filter (fun p => !acc p) by rw [List.take_length, ← hacc]; rfl)
  rw [hacc] at HCC
  rw [HGL.out, HBL.out, List.take_length]
  clear hacc
  go_enter Tryz.func52, Tryz.ntmps52
  go_wp2_with fail
  go_loopw [4, 5, 10] (fun vg vb vi wr => ∃ k : Nat, k ≤ l.length ∧ vi = .int .i64 k ∧ Two4 w.heap.size wr vg vb ((l.take k).filter acc) ((l.take k).filter (fun p => !acc p)) ∧ Only (fun _ => False) w wr) (fun _ _ vi _ => l.length - (intOf vi).toNat)
  case atStart => exact ⟨0, Nat.zero_le _, rfl, ⟨World.ownsRow_nil _ _ _ _, World.ownsRow_nil _ _ _ _, fun k hk => by simp [Value.ownBlock] at hk⟩, Only.refl _ _⟩
  case round =>
    obtain ⟨k, hk, rfl, hT, hO⟩ := hrel
    by_cases hlt : k < l.length
    · have HTK := Lib.hid (p4_take l k hlt)
      obtain ⟨b, off, hav, hb, hc1, hc2, x0, x1, x2, x3⟩ := (HL.out.only hO).at hlt
      cases hav
      have hg1 : ((l.take k).filter acc).length ≤ k := Nat.le_trans (List.length_filter_le _ _) (List.length_take_le _ _)
      have hg2 : ((l.take k).filter (fun p => !acc p)).length ≤ k := Nat.le_trans (List.length_filter_le _ _) (List.length_take_le _ _)
      have HF1 := Lib.hid (show (l.take (k + 1)).filter acc = (l.take k).filter acc ++ [p4At l k].filter acc by rw [HTK.out, List.filter_append])
      have HF2 := Lib.hid (show (l.take (k + 1)).filter (fun p => !acc p) = (l.take k).filter (fun p => !acc p) ++ [p4At l k].filter (fun p => !acc p) by rw [HTK.out, List.filter_append])
      obtain ⟨p, hp⟩ : ∃ p, p4At l k = p := ⟨_, rfl⟩
      rw [hp] at HF1 HF2 x0 x1 x2 x3
      generalize (l.take k).filter acc = gl at *
      generalize (l.take k).filter (fun p => !acc p) = bl at *
      clear hp HTK
      obtain ⟨x, v, c, z⟩ := p
      dsimp only at x0 x1 x2 x3
      have HO := Lib.hid hO
      have HT := Lib.hid hT
      have hOa := hO.alloc (.cells #[.int .i64 x, .int .i64 v, .int .i64 c, .int .i64 z] 30)
      have HCL := Lib.hid (HCC.out _ hOa x v c z)
      have HXa := Lib.hid (heap_alloc_last wr (.cells #[.int .i64 x, .int .i64 v, .int .i64 c, .int .i64 z] 30))
      have HTa := Lib.hid (hT.only ((Only.refl (fun _ => False) wr).alloc (.cells #[.int .i64 x, .int .i64 v, .int .i64 c, .int .i64 z] 30)))
      have HOa := Lib.hid hOa
      obtain ⟨ab, hab⟩ : ∃ ab, acc (x, v, c, z) = ab := ⟨_, rfl⟩
      rw [hab] at HCL
      have HAB := Lib.hid hab
      have i1 : (k : Int) < l.length := by omega
      have i2 : 0 ≤ (k : Int) := by omega
      obtain ⟨a4, c4, hv4⟩ := slice_of_own hT.own1
      obtain ⟨a5, c5, hv5⟩ := slice_of_own hT.own2
      subst hv4 hv5
      clear hO hT hOa hab hk HCC
      go_wp2_with fail
      refine HCL.out.mono ?_
      rintro e w2 ⟨rfl, hO2⟩
      have HX2 := Lib.hid (row_still hO2 HXa.out)
      have HT2 := Lib.hid (HTa.out.only hO2)
      have HO2 := Lib.hid (HOa.out.trans hO2)
      generalize wr.heap.size = nX at *
      have y0 : _ = some (Value.int .i64 x) := cell_of_row _ _ 0 _ _ _ HX2.out
      have y1 : _ = some (Value.int .i64 v) := cell_of_row _ _ 1 _ _ _ HX2.out
      have y2 : _ = some (Value.int .i64 c) := cell_of_row _ _ 2 _ _ _ HX2.out
      have y3 : _ = some (Value.int .i64 z) := cell_of_row _ _ 3 _ _ _ HX2.out
      have HT3 := Lib.hid (HT2.out.only ((Only.refl (fun _ => False) w2).alloc (.cells #[.int .i64 x, .int .i64 v, .int .i64 c, .int .i64 z] 30)))
      have HO3 := Lib.hid (HO2.out.alloc (.cells #[.int .i64 x, .int .i64 v, .int .i64 c, .int .i64 z] 30))
      have hsz := HO2.out.size
      clear hO2 x0 x1 x2 x3 HCL HXa HTa HOa
      cases ab
      · go_wp2_with (at_builtin; refine wpList_append_lies _ rfl _ _ 44 rfl w.heap.size 30 i0 _ 4 32 Tryz.underlying44 hi0 hz0 hz1 hz2 rfl (by decide) _ bl.length (prow bl) rfl HT3.out.own2 ⟨w2.heap.size, 0, none⟩ 1 1 (prow [(x, v, c, z)]) rfl rfl (World.news_of_block (cs := #[.int .i64 x, .int .i64 v, .int .i64 c, .int .i64 z]) (t := 30) (fr := (0, 0)) (heap_alloc_new w2 _)) ?c0 (by decide) ?c1 ?c2 ?c3 _ rfl ?_)
        case c0 => exact p4_one _
        case c1 => unfold maxLen; omega
        case c2 => omega
        case c3 => rw [World.size_alloc]; omega
        intro g cp4 w9 ho1 hg1 ha1 _
        have HT9 := Lib.hid (HT3.out.right ho1 hg1 (by rw [World.size_alloc]; exact ha1))
        have HO9 := Lib.hid (HO3.out.grow HT3.out.own2 (Nat.le_refl _) hg1)
        clear ho1 hg1 ha1
        go_wp2
        go_roundw
        case rel => exact ⟨k + 1, by omega, by go_num, by
          rw [HF1.out, HF2.out]
          simp only [List.filter_cons, HAB.out, List.filter_nil, Bool.not_false, if_true, Bool.false_eq_true, if_false, List.append_nil]
          exact HT9.out, HO9.out⟩
        case measure => simp [intOf]; omega
      · go_wp2_with (at_builtin; refine wpList_append_lies _ rfl _ _ 44 rfl w.heap.size 30 i0 _ 4 32 Tryz.underlying44 hi0 hz0 hz1 hz2 rfl (by decide) _ gl.length (prow gl) rfl HT3.out.own1 ⟨w2.heap.size, 0, none⟩ 1 1 (prow [(x, v, c, z)]) rfl rfl (World.news_of_block (cs := #[.int .i64 x, .int .i64 v, .int .i64 c, .int .i64 z]) (t := 30) (fr := (0, 0)) (heap_alloc_new w2 _)) ?d0 (by decide) ?d1 ?d2 ?d3 _ rfl ?_)
        case d0 => exact p4_one _
        case d1 => unfold maxLen; omega
        case d2 => omega
        case d3 => rw [World.size_alloc]; omega
        intro g cp4 w9 ho1 hg1 ha1 _
        have HT9 := Lib.hid (HT3.out.left ho1 hg1 (by rw [World.size_alloc]; exact ha1))
        have HO9 := Lib.hid (HO3.out.grow HT3.out.own1 (Nat.le_refl _) hg1)
        clear ho1 hg1 ha1
        go_wp2
        go_roundw
        case rel => exact ⟨k + 1, by omega, by go_num, by
          rw [HF1.out, HF2.out]
          simp only [List.filter_cons, HAB.out, List.filter_nil, Bool.not_true, if_true, Bool.false_eq_true, if_false, List.append_nil]
          exact HT9.out, HO9.out⟩
        case measure => simp [intOf]; omega
    · obtain rfl : k = l.length := by omega
      have i1 : ¬ (l.length : Int) < l.length := by omega
      rw [List.take_length] at hT
      have HT := Lib.hid hT
      have HO := Lib.hid hO
      clear hT hO hk hlt
      go_wp2
      go_ret2
      exact ⟨_, _, rfl, HT.out, HO.out⟩
end Go.Proofs.YtlhfgbkonmgahaaGreatDoor

namespace Go.Proofs.YtlhfgbkonmgahaaGreatDoor
open Go.RowKit

theorem acB_parts {n : Int} {cm : List Int} {r : Int} {p : Pt4} (h : acB n cm r p = true) : (1 ≤ p.1 ∧ p.1 ≤ n) ∧ memB p.2.1 = true := by
  unfold acB at h
  simp only [Bool.and_eq_true, decide_eq_true_eq] at h
  have hv := h.2
  unfold verB at hv
  simp only [Bool.and_eq_true] at hv
  exact ⟨h.1, hv.1.2⟩
theorem goodL_mem {n : Int} {cm : List Int} {r : Int} {L : List Pt4} : ∀ p ∈ goodL n cm r L, acB n cm r p = true := fun _ hp => (List.mem_filter.1 hp).2
/-- What comes of partials: the value, the points of those that are not accepted, the error. -/
def combR (rows : List (List Int)) (cm : List Int) (r : Int) (L : List Pt4) : Int × List Int × Int :=
  if rightKB rows cm then (if (combB (gridN rows : Nat) cm r L).length < cm.length then (0, (badL (gridN rows : Nat) cm r L).map (·.1), 24) else (liftedZ cm.length (combB (gridN rows : Nat) cm r L), (badL (gridN rows : Nat) cm r L).map (·.1), 0)) else (0, [], 1)
theorem shs_w (l : List (Int × Int)) (h : ∀ s ∈ l, (-9223372036854775808 ≤ s.1 ∧ s.1 ≤ 9223372036854775807) ∧ (-9223372036854775808 ≤ s.2 ∧ s.2 ≤ 9223372036854775807)) : ShsW l := by
  refine ⟨fun j => ?_⟩
  by_cases hj : j < l.length
  · have : shAt l j = l[j] := by simp [shAt, List.getD, hj]
    rw [this]
    exact h _ (List.getElem_mem hj)
  · have : shAt l j = (0, 0) := by simp [shAt, List.getD, List.getElem?_eq_none (show l.length ≤ j by omega)]
    rw [this]
    exact ⟨⟨by decide, by decide⟩, by decide, by decide⟩
theorem ded_len (l : List (Int × Int)) : (dedL l).length ≤ l.length := by
  suffices h : ∀ (l a : List (Int × Int)), (l.foldl dedS a).length ≤ a.length + l.length from by have := h l []; simpa [dedL] using this
  intro l
  induction l with
  | nil => intro a; simp
  | cons s t ih =>
    intro a
    rw [List.foldl_cons]
    have := ih (dedS a s)
    have := dedS_len a s
    simp only [List.length_cons]
    omega
theorem shr_take (gl : List Pt4) (k : Nat) (h : k < gl.length) : shrL (gl.take (k + 1)) = dedS (shrL (gl.take k)) ((p4At gl k).1, (p4At gl k).2.1) := by
  unfold shrL
  rw [p4_take gl k h, List.map_append]
  exact dedL_snoc _ _
theorem any_snoc (l : List (Int × Int)) (x y z : Int) : (l ++ [(x, y)]).any (fun t => t.1 == z) = (z == x || l.any (fun t => t.1 == z)) := by
  rw [List.any_append]
  simp only [List.any_cons, List.any_nil, Bool.or_false]
  rw [Bool.or_comm]
  congr 1
  exact Bool.eq_iff_iff.2 ⟨fun h => by simpa using (beq_iff_eq.1 h).symm, fun h => by simpa using (beq_iff_eq.1 h).symm⟩
/-- At the head of a round over the partials that were accepted. -/
structure Shr (w3 wr : World) (mb : Nat) (v : Value) (l : List (Int × Int)) : Prop where
  own : wr.ownsRow w3.heap.size 23 2 v l.length (srow l)
  set : ∃ m, m ≤ l.length ∧ SetAt wr mb m (fun z => l.any fun t => t.1 == z)
  ne : ∀ g, v.ownBlock = some g → g ≠ mb
  only : Only (fun _ => False) w3 wr
theorem Shr.grow {w3 wr wm w9 : World} {mb g cap m : Nat} {v : Value} {l : List (Int × Int)} {x y : Int} (h : Shr w3 wr mb v l) (hmb : w3.heap.size ≤ mb)
    (hO : Only (fun i => i = mb) wr wm) (hS : SetAt wm mb m (fun z => z == x || l.any fun t => t.1 == z)) (hm : m ≤ l.length + 1)
    (hown : w9.ownsRow w3.heap.size 23 2 (.slice (some ⟨g, 0, none⟩) (l.length + 1) cap) (l.length + 1) (srow l ++ [.int .i64 x, .int .i64 y])) (hg : wm.grownBy w9 v.ownBlock) (hat : v.ownBlock = some g ∨ g = wm.heap.size) :
    Shr w3 w9 mb (.slice (some ⟨g, 0, none⟩) (l.length + 1) cap) (l ++ [(x, y)]) := by
  have hlt := hS.lt
  have hO2 : Only (fun k => v.ownBlock = some k) wm w9 := (Only.refl _ wm).grown hg (fun k e _ => e)
  refine ⟨by rw [List.length_append, srow_append]; exact hown, ⟨m, by simpa using hm, ?_⟩, fun k hk => ?_, ?_⟩
  · have e : (fun z => (l ++ [(x, y)]).any fun t => t.1 == z) = (fun z => z == x || l.any fun t => t.1 == z) := by funext z; exact any_snoc l x y z
    rw [e]
    exact hS.frame hO2 (fun hv => h.ne _ hv rfl)
  · have e : g = k := by simpa [Value.ownBlock] using hk
    subst e
    rcases hat with hat | hat
    · exact h.ne _ hat
    · omega
  · have h1 : Only (fun _ => False) w3 wm := h.only.trans' hO (fun i hi e => by omega)
    exact h1.trans' hO2 (fun i hi e => by
      have := own_lt h.own e
      omega)
set_option maxRecDepth 100000 in
set_option maxHeartbeats 8000000 in
theorem bcombine_any (sv : Value) (L : List Pt4) (ac ap : Option Addr) (cc cp : Nat) (cm : List Int) (rows : List (List Int)) (r : Int) (w : World) (hL : P4sAt w sv L) (hlen : L.length ≤ 1000000)
    (hC : PtsAt w.heap.size w (.slice ac cm.length cc) cm) (hR : GridAt w (.slice ap rows.length cp) rows)
    (hs : ∀ k, k ≤ rows.length → gridTo rows k ≤ 1000000) (hcm : cm.length ≤ 1000000) (h0 : -9223372036854775808 ≤ r) (h1 : r ≤ 9223372036854775807) (hG : Glob w) :
    Calls Tryz.prog 22 #[.agg #[.slice ac cm.length cc, .slice ap rows.length cp], .int .i64 r, sv] w fun e w' =>
      ∃ v, e = .returned (.tuple #[.int .i64 (combR rows cm r L).1, v, .int .i64 (combR rows cm r L).2.2]) ∧ w'.ownsRow w.heap.size 3 1 v (combR rows cm r L).2.1.length (irow (combR rows cm r L).2.1) ∧ Only (fun _ => False) w w' := by
  obtain ⟨i0, hi0, hz0, hz1, hz2⟩ := info_parts Tryz.infoI
  obtain ⟨s0, hs0, hsz0, hsz1, hsz2⟩ := info_parts Tryz.infoS
  obtain ⟨a, cap, rfl⟩ := hL.slice
  have hA := ((Only.refl (fun _ => False) w).alloc (.cells #[.slice ac cm.length cc, .slice ap rows.length cp] 41)).alloc (.cells #[.int .i64 r] 3)
  have hk1 := heap_alloc_last (w.alloc (.cells #[.slice ac cm.length cc, .slice ap rows.length cp] 41)) (.cells #[.int .i64 r] 3)
  have hk0 := (Below.heap_alloc (w.alloc (.cells #[.slice ac cm.length cc, .slice ap rows.length cp] 41)) (.cells #[.int .i64 r] 3) w.heap.size (by simp)).trans (heap_alloc_last w _)
  rw [World.size_alloc] at hk1
  have HA := Lib.hid hA
  have HK0 := Lib.hid hk0
  have HK1 := Lib.hid hk1
  obtain ⟨rb, hrb⟩ : ∃ rb, rightKB rows cm = rb := ⟨_, rfl⟩
  have HRI := Lib.hid (right_is ac ap cc cp cm rows rb _ (hC.only hA) (hR.only hA) hs hcm hrb)
  have HDV := Lib.hid (fun (W : World) (hW : Only (fun _ => False) ((w.alloc (.cells #[.slice ac cm.length cc, .slice ap rows.length cp] 41)).alloc (.cells #[.int .i64 r] 3)) W) => divide_any (.slice a L.length cap) L w.heap.size (w.heap.size + 1) ac ap cc cp cm rows r W (hL.only (hA.trans hW)) hlen (hC.only (hA.trans hW)) (hR.only (hA.trans hW)) hs hcm h0 h1 (hG.only (hA.trans hW)) (row_still hW hk0) (row_still hW hk1))
  have e0 : _ = some (Value.slice ac cm.length cc) := cell_of_row _ _ 0 _ _ _ hk0
  have e1 : _ = some (Value.slice ap rows.length cp) := cell_of_row _ _ 1 _ _ _ hk0
  have HCR := Lib.hid (show combR rows cm r L = if rb then (if (combB (gridN rows : Nat) cm r L).length < cm.length then (0, (badL (gridN rows : Nat) cm r L).map (·.1), 24) else (liftedZ cm.length (combB (gridN rows : Nat) cm r L), (badL (gridN rows : Nat) cm r L).map (·.1), 0)) else (0, [], 1) by rw [← hrb]; rfl)
  have hnn : (gridN rows : Nat) ≤ 1000000 := hs _ (Nat.le_refl _)
  have HGM := Lib.hid (show ∀ p ∈ goodL (gridN rows : Nat) cm r L, (1 ≤ p.1 ∧ p.1 ≤ 1000000) ∧ memB p.2.1 = true from fun p hp => by
    have := acB_parts (goodL_mem p hp)
    exact ⟨⟨this.1.1, by omega⟩, this.2⟩)
  have hgl : (goodL (gridN rows : Nat) cm r L).length ≤ 1000000 := Nat.le_trans (List.length_filter_le _ _) hlen
  have hbl : (badL (gridN rows : Nat) cm r L).length ≤ 1000000 := Nat.le_trans (List.length_filter_le _ _) hlen
  have HCB := Lib.hid (show combB (gridN rows : Nat) cm r L = shrL (goodL (gridN rows : Nat) cm r L) from rfl)
  rw [HCB.out] at HCR
  generalize goodL (gridN rows : Nat) cm r L = gl at *
  generalize badL (gridN rows : Nat) cm r L = bl at *
  generalize combR rows cm r L = R at *
  clear hA hk0 hk1 hL hC hR hG hrb hs hnn HCB hlen
  go_enter Tryz.func22, Tryz.ntmps22
  go_wp2_with fail
  refine HRI.out.mono ?_
  rintro e w2 ⟨rfl, hO2⟩
  have HO2 := Lib.hid hO2
  have HK02 := Lib.hid (row_still hO2 HK0.out)
  clear hO2 HRI HK0 HK1 e0 e1
  cases rb
  · have HR0 := Lib.hid (show R = (0, [], 1) by rw [HCR.out]; rfl)
    have HOF := Lib.hid (HA.out.trans HO2.out)
    clear HCR
    go_wp2
    go_ret3
    rw [HR0.out]
    exact ⟨_, rfl, World.ownsRow_nil _ _ _ _, HOF.out⟩
  · rw [if_pos rfl] at HCR
    go_wp2_with fail
    refine (HDV.out _ HO2.out).mono ?_
    rintro e w3 ⟨vg, vb, rfl, hT, hO3⟩
    have HK03 := Lib.hid (row_still hO3 HK02.out)
    have HO3 := Lib.hid (HA.out.trans (HO2.out.trans hO3))
    have hgp := p4s_of_own hT.own1
    have hbp := p4s_of_own hT.own2
    obtain ⟨a9, c9, rfl⟩ := hgp.slice
    obtain ⟨a10, c10, rfl⟩ := hbp.slice
    have HGP := Lib.hid hgp
    have HBP := Lib.hid hbp
    clear hT hO3 hgp hbp HDV HO2 HK02 HA
    have HW3 := Lib.hid HO3.out.size
    generalize hblk : w.heap.size = blk at *
    have HBK := Lib.hid hblk
    clear hblk
    go_wp2_with fail
    go_loopw [7, 28] (fun vb vi wr => ∃ k : Nat, k ≤ bl.length ∧ vi = .int .i64 k ∧ wr.ownsRow w3.heap.size 3 1 vb k (irow ((bl.take k).map (·.1))) ∧ Only (fun _ => False) w3 wr) (fun _ vi _ => bl.length - (intOf vi).toNat)
    case atStart => exact ⟨0, Nat.zero_le _, rfl, World.ownsRow_nil _ _ _ _, Only.refl _ _⟩
    case round =>
      obtain ⟨k, hk, rfl, hown, hO⟩ := hrel
      by_cases hlt : k < bl.length
      · have HTK := Lib.hid (show irow ((bl.take (k + 1)).map (·.1)) = irow ((bl.take k).map (·.1)) ++ [.int .i64 (p4At bl k).1] by rw [p4_take bl k hlt, List.map_append, irow_append]; rfl)
        obtain ⟨b, off, hav, hb, hc1, hc2, x0, x1, x2, x3⟩ := (HBP.out.only hO).at hlt
        cases hav
        obtain ⟨p, hp⟩ : ∃ p, p4At bl k = p := ⟨_, rfl⟩
        rw [hp] at HTK x0 x1 x2 x3
        generalize irow ((bl.take k).map (·.1)) = xs at *
        clear hp
        obtain ⟨x, v, c, z⟩ := p
        dsimp only at HTK x0 x1 x2 x3
        have hOa := hO.alloc (.cells #[.int .i64 x, .int .i64 v, .int .i64 c, .int .i64 z] 30)
        have HXa := Lib.hid (heap_alloc_last wr (.cells #[.int .i64 x, .int .i64 v, .int .i64 c, .int .i64 z] 30))
        have HOW := Lib.hid ((hown.alloc (.cells #[.int .i64 x, .int .i64 v, .int .i64 c, .int .i64 z] 30)).alloc (.cells #[.int .i64 x] 3))
        have HOa := Lib.hid (hOa.alloc (.cells #[.int .i64 x] 3))
        have hsz := hO.size
        have i1 : (k : Int) < bl.length := by omega
        have i2 : 0 ≤ (k : Int) := by omega
        obtain ⟨a7, c7, hv7⟩ := slice_of_own hown
        subst hv7
        have e0 : _ = some (Value.int .i64 x) := cell_of_row _ _ 0 _ _ _ HXa.out
        clear hO hown hOa hk
        go_wp2_with (at_builtin; refine wpList_append_lies _ rfl _ _ 34 rfl w3.heap.size 3 i0 _ 1 8 Tryz.underlying34 hi0 hz0 hz1 hz2 rfl (by decide) _ k xs rfl HOW.out ⟨wr.heap.size + 1, 0, none⟩ 1 1 [.int .i64 x] rfl rfl (World.news_of_block (cs := #[.int .i64 x]) (t := 3) (fr := (0, 0)) (by have := heap_alloc_last (wr.alloc (.cells #[.int .i64 x, .int .i64 v, .int .i64 c, .int .i64 z] 30)) (.cells #[.int .i64 x] 3); simpa using this)) (one_int _) (by decide) ?c1 ?c2 ?c3 _ rfl ?_)
        case c1 => unfold maxLen; omega
        case c2 => omega
        case c3 => first | omega | (simp; omega)
        intro g cp7 w9 ho1 hg1 ha1 _
        have HOW9 := Lib.hid ho1
        have HO9 := Lib.hid (HOa.out.grow HOW.out (Nat.le_refl _) hg1)
        clear ho1 hg1 ha1
        go_wp2
        go_roundw
        case rel => exact ⟨k + 1, by omega, by go_num, by rw [HTK.out]; exact HOW9.out, HO9.out⟩
        case measure => simp [intOf]; omega
      · obtain rfl : k = bl.length := by omega
        have i1 : ¬ (bl.length : Int) < bl.length := by omega
        rw [List.take_length] at hown
        have HBA := Lib.hid hown
        have HGP5 := Lib.hid (HGP.out.only hO)
        have HK5 := Lib.hid (row_still hO HK03.out)
        have HO5 := Lib.hid (HO3.out.trans hO)
        have HS5 := Lib.hid hO.size
        obtain ⟨a7, c7, hv7⟩ := slice_of_own hown
        subst hv7
        clear hO hown hk hlt HGP HBP HK03 HO3
        generalize wr = w5 at *
        have hmm := @run_makeMap Tryz.prog
        go_wp2_with fail
        clear hmm
        have HM0 := Lib.hid (set_new (w5.alloc (.map #[] 0)) w5.heap.size (heap_alloc_new w5 _))
        have HO6 := Lib.hid ((Only.refl (fun _ => False) w5).alloc (.map #[] 0))
        go_loopw [14, 41] (fun vs vi wr => ∃ k : Nat, k ≤ gl.length ∧ vi = .int .i64 k ∧ Shr w5 wr w5.heap.size vs (shrL (gl.take k))) (fun _ vi _ => gl.length - (intOf vi).toNat)
        case atStart => exact ⟨0, Nat.zero_le _, rfl, ⟨World.ownsRow_nil _ _ _ _, ⟨0, Nat.le_refl _, HM0.out⟩, fun g hg => by simp [Value.ownBlock] at hg, HO6.out⟩⟩
        case round =>
          obtain ⟨k, hk, rfl, hS⟩ := hrel
          clear HM0 HO6
          have hlk : (shrL (gl.take k)).length ≤ k := Nat.le_trans (ded_len _) (by rw [List.length_map]; exact List.length_take_le _ _)
          by_cases hlt : k < gl.length
          · have HTK := Lib.hid (shr_take gl k hlt)
            obtain ⟨b, off, hav, hb, hc1, hc2, x0, x1, x2, x3⟩ := (HGP5.out.only hS.only).at hlt
            cases hav
            have hpm := HGM.out (p4At gl k) (by unfold p4At; rw [List.getD_eq_getElem?_getD, List.getElem?_eq_getElem hlt]; exact List.getElem_mem hlt)
            obtain ⟨p, hp⟩ : ∃ p, p4At gl k = p := ⟨_, rfl⟩
            rw [hp] at HTK x0 x1 x2 x3 hpm
            generalize shrL (gl.take k) = sl at *
            clear hp
            obtain ⟨x, v, c, z⟩ := p
            dsimp only at HTK x0 x1 x2 x3 hpm
            obtain ⟨⟨p1, p2⟩, hpm⟩ := hpm
            obtain ⟨m, hm, hset⟩ := hS.set
            have hsz := hS.only.size
            have hOx := (Only.refl (fun _ => False) wr).alloc (.cells #[.int .i64 x, .int .i64 v, .int .i64 c, .int .i64 z] 30)
            have hsetA := hset.frame hOx id
            have hl := hsetA.look x (WalkArith.wf_i64 (by omega))
            have HXa := Lib.hid (heap_alloc_last wr (.cells #[.int .i64 x, .int .i64 v, .int .i64 c, .int .i64 z] 30))
            have e0 : _ = some (Value.int .i64 x) := cell_of_row _ _ 0 _ _ _ HXa.out
            have hmlt := hset.lt
            obtain ⟨a14, c14, hv14⟩ := slice_of_own hS.own
            subst hv14
            have i1 : (k : Int) < gl.length := by omega
            have i2 : 0 ≤ (k : Int) := by omega
            have HSA := Lib.hid (show Shr w5 (wr.alloc (.cells #[.int .i64 x, .int .i64 v, .int .i64 c, .int .i64 z] 30)) w5.heap.size (.slice a14 sl.length c14) sl from ⟨hOx.owns hS.own (fun _ _ h => h), ⟨m, hm, hsetA⟩, hS.ne, hS.only.trans hOx⟩)
            obtain ⟨bb, hbb⟩ : ∃ bb, (sl.any fun t => t.1 == x) = bb := ⟨_, rfl⟩
            rw [hbb] at hl
            have HDS := Lib.hid (show dedS sl (x, v) = if bb then sl else sl ++ [(x, v)] by rw [← hbb]; rfl)
            cases bb
            · obtain ⟨wm, hrun, hS2, hO2⟩ := hsetA.add (by unfold maxLen; omega) x (WalkArith.wf_i64 (by omega))
              have HS2 := Lib.hid hS2
              have HO2 := Lib.hid hO2
              have y0 : wm.cell? ⟨wr.heap.size, 0, none⟩ = some (Value.int .i64 x) := hO2.cell e0 (by show ¬ wr.heap.size = w5.heap.size; omega)
              have y1 : wm.cell? ⟨wr.heap.size, 1, none⟩ = some (Value.int .i64 v) := hO2.cell (cell_of_row _ _ 1 _ _ _ HXa.out) (by show ¬ wr.heap.size = w5.heap.size; omega)
              have HOW := Lib.hid ((hO2.owns HSA.out.own (fun g hg e => HSA.out.ne g hg e)).alloc (.cells #[.int .i64 x, .int .i64 v] 23))
              have hszm := hO2.size
              rw [World.size_alloc] at hszm
              have HSM := Lib.hid (HS2.out.frame ((Only.refl (fun _ => False) wm).alloc (.cells #[.int .i64 x, .int .i64 v] 23)) id)
              have HOM := Lib.hid (hO2.alloc (.cells #[.int .i64 x, .int .i64 v] 23))
              clear hS hset hsetA hS2 hO2 hbb hOx hk
              go_wp2_with (at_builtin; refine wpList_append_lies _ rfl _ _ 49 rfl w5.heap.size 23 s0 _ 2 16 Tryz.underlying49 hs0 hsz0 hsz1 hsz2 rfl (by decide) _ sl.length (srow sl) rfl HOW.out ⟨wm.heap.size, 0, none⟩ 1 1 [.int .i64 x, .int .i64 v] rfl rfl (World.news_of_block (cs := #[.int .i64 x, .int .i64 v]) (t := 23) (fr := (0, 0)) (heap_alloc_new wm _)) ?d0 (by decide) ?d1 ?d2 ?d3 _ rfl ?_)
              case d0 => intro u hu; simp at hu; rcases hu with rfl | rfl <;> rfl
              case d1 => unfold maxLen; omega
              case d2 => omega
              case d3 => rw [World.size_alloc]; omega
              intro g cpg w9 ho1 hg1 ha1 _
              have HS9 := Lib.hid (HSA.out.grow (Nat.le_refl _) HOM.out HSM.out (by omega) ho1 hg1 (by rw [World.size_alloc]; exact ha1))
              clear ho1 hg1 ha1
              go_wp2
              go_roundw
              case rel => exact ⟨k + 1, by omega, by go_num, by rw [HTK.out, HDS.out]; exact HS9.out⟩
              case measure => simp [intOf]; omega
            · clear hS hset hsetA hbb hOx hk
              go_wp2
              go_roundw
              case rel => exact ⟨k + 1, by omega, by go_num, by rw [HTK.out, HDS.out]; exact HSA.out⟩
              case measure => simp [intOf]; omega
          · obtain rfl : k = gl.length := by omega
            rw [List.take_length] at hS hlk
            have i1 : ¬ (gl.length : Int) < gl.length := by omega
            have HSW := Lib.hid (show ShsW (shrL gl) from shs_w _ fun s hs => by
              have := ded_sub _ s hs
              rw [List.mem_map] at this
              obtain ⟨p, hp, rfl⟩ := this
              have hg := HGM.out p hp
              have hv := memB_bd hg.2
              dsimp only
              omega)
            generalize shrL gl = sl at *
            have HSO := Lib.hid (shs_of_own hS.own (by omega))
            have HBA9 := Lib.hid (own_base (b' := w.heap.size) (hS.only.owns HBA.out (fun _ _ h => h)) (by rw [HBK.out]; exact HW3.out))
            have HOZ := Lib.hid (HO5.out.trans hS.only)
            have e0 : _ = some (Value.slice ac cm.length cc) := cell_of_row _ _ 0 _ _ _ (row_still hS.only HK5.out)
            obtain ⟨a14, c14, hv14⟩ := slice_of_own hS.own
            subst hv14
            clear hS hk hlt HGP5 HK5 HBA HGM
            by_cases hf : sl.length < cm.length
            · have HRF := Lib.hid (show R = (0, bl.map (·.1), 24) by rw [HCR.out, if_pos hf])
              have j1 : (sl.length : Int) < cm.length := by omega
              clear HCR
              go_wp2
              go_ret3
              rw [HRF.out]
              exact ⟨_, rfl, by rw [List.length_map]; exact HBA9.out, HOZ.out⟩
            · have HRF := Lib.hid (show R = (liftedZ cm.length sl, bl.map (·.1), 0) by rw [HCR.out, if_neg hf])
              have j1 : ¬ (sl.length : Int) < cm.length := by omega
              obtain ⟨eb, heb⟩ : ∃ eb, enB memB cm.length sl = eb := ⟨_, rfl⟩
              have HLF := Lib.hid (lifted_any cm.length (.slice a14 sl.length c14) sl _ eb wr HSW.out (by omega) (by omega) HSO.out rfl heb)
              generalize liftedZ cm.length sl = lz at *
              clear HCR heb HSW HSO
              go_wp2_with fail
              refine HLF.out.mono ?_
              rintro e wz ⟨rfl, hOz⟩
              have HOW := Lib.hid (HOZ.out.trans hOz)
              have HBAz := Lib.hid (hOz.owns HBA9.out (fun _ _ h => h))
              clear hOz
              go_wp2
              go_ret3
              rw [HRF.out]
              exact ⟨_, rfl, by rw [List.length_map]; exact HBAz.out, HOW.out⟩
end Go.Proofs.YtlhfgbkonmgahaaGreatDoor

namespace Go.Proofs.YtlhfgbkonmgahaaGreatDoor
open Go.RowKit

def decF : Nat → Nat → List UInt8
  | 0, u => [UInt8.ofNat (48 + u)]
  | f + 1, u => bif Nat.blt u 10 then [UInt8.ofNat (48 + u)] else decF f (u / 10) ++ [UInt8.ofNat (48 + u % 10)]
theorem decF_eq : ∀ (f u : Nat), u < 10 ^ (f + 1) → Lib.decDigits u = decF f u
  | 0, u, h => by rw [Lib.decDigits_one (by simpa using h)]; rfl
  | f + 1, u, h => by
    rw [decF]
    by_cases h10 : u < 10
    · have hb : Nat.blt u 10 = true := by simp [Nat.blt, Nat.ble_eq]; omega
      rw [hb, Lib.decDigits_one h10]; rfl
    · have hb : Nat.blt u 10 = false := by
        rw [Bool.eq_false_iff]
        intro hh
        have := Nat.le_of_ble_eq_true hh
        omega
      rw [hb, cond_false, Lib.decDigits, dif_neg h10, decF_eq f (u / 10) (by rw [Nat.pow_succ] at h; omega)]
/-- Numbers with slashes between them. -/
def joinF : List Int → List UInt8
  | [] => []
  | [z] => decF 19 z.toNat
  | z :: r => decF 19 z.toNat ++ 47 :: joinF r
theorem joinF_cons (z y : Int) (r : List Int) : joinF (z :: y :: r) = decF 19 z.toNat ++ 47 :: joinF (y :: r) := rfl
theorem joinL_cons (z y : Int) (r : List Int) : joinL (z :: y :: r) = (decB z.toNat).data.toList ++ 47 :: joinL (y :: r) := by
  unfold joinL digsL
  simp only [List.map_cons]
  rw [Lib.join_cons, Lib.join_cons]
  simp [Lib.joinTail]
theorem decB_F {z : Int} (h1 : z ≤ 9223372036854775807) : (decB z.toNat).data.toList = decF 19 z.toNat := by
  unfold decB
  rw [decF_eq 19 z.toNat (by have : (10 : Nat) ^ (19 + 1) = 100000000000000000000 := by decide
                             omega)]
theorem joinF_eq : ∀ zs : List Int, Nats zs → joinL zs = joinF zs
  | [], _ => rfl
  | [z], h => by
    have := h z (by simp)
    unfold joinL digsL
    simp only [List.map_cons, List.map_nil]
    rw [Lib.join_one, decB_F this.2]; rfl
  | z :: y :: r, h => by
    have := h z (by simp)
    rw [joinL_cons, joinF_cons, joinF_eq (y :: r) (fun x hx => h x (List.mem_cons_of_mem _ hx)), decB_F this.2]
def wscF (word : ByteArray) (zs : List Int) : Int := scalarZ (word ++ (⟨#[47]⟩ : ByteArray) ++ ⟨(joinF zs).toArray⟩)
theorem wscF_eq (word : ByteArray) (zs : List Int) (h : Nats zs) : wscZ word zs = wscF word zs := by
  unfold wscZ wscF joinN
  rw [joinF_eq zs h]
end Go.Proofs.YtlhfgbkonmgahaaGreatDoor

namespace Go.Proofs.YtlhfgbkonmgahaaGreatDoor
open Go.RowKit

def natsB (zs : List Int) : Bool := zs.all fun z => decide (0 ≤ z) && decide (z ≤ 9223372036854775807)
theorem nats_of {zs : List Int} (h : natsB zs = true) : Nats zs := by
  intro z hz
  unfold natsB at h
  rw [List.all_eq_true] at h
  have := h z hz
  simpa using this
theorem base3 : baseZ 3 = 395959045349903426 := by
  have e : decI 3 = ⟨#[51]⟩ := by
    have := decI_nat 3
    rw [show ((3 : Nat) : Int) = 3 from rfl] at this
    rw [this]
    unfold decB
    rw [Lib.decDigits_one (by decide)]
    rfl
  have h : elemZ ((⟨#[114, 111, 117, 110, 100, 47]⟩ : ByteArray) ++ ⟨#[51]⟩) = 395959045349903426 := by kernel_rfl
  rw [← e] at h
  exact h
theorem no_1_8_k : pfK 8 4 395959045349903426 = 666323555495277270 := by
  unfold pfK
  rw [wscF_eq _ _ (nats_of (by kernel_rfl))]
  kernel_rfl
theorem no_1_8_c : pfC 8 4 395959045349903426 = 1125051477765462390 := by
  unfold pfC pfNums
  rw [no_1_8_k, show [4, powM 4 8 2305843009213691579, 395959045349903426, powM 395959045349903426 8 2305843009213691579, powM 4 666323555495277270 2305843009213691579, powM 395959045349903426 666323555495277270 2305843009213691579] = ([4, 65536, 395959045349903426, 102382884631579062, 2010864775221906810, 1481970882570046920] : List Int) from by kernel_rfl, wscF_eq _ _ (nats_of (by kernel_rfl))]
  kernel_rfl
theorem no_1_8_z : pfZ 8 4 395959045349903426 = 443363340764210078 := by
  unfold pfZ
  rw [no_1_8_k, no_1_8_c]
  kernel_rfl
theorem no_1_8 : verB 4 (powM 4 7 2305843009213691579) 395959045349903426 (powM 395959045349903426 8 2305843009213691579) (pfC 8 4 395959045349903426) (pfZ 8 4 395959045349903426) = false := by
  have hw : wscZ wEq (vNums 4 (powM 4 7 2305843009213691579) 395959045349903426 (powM 395959045349903426 8 2305843009213691579) 1125051477765462390 443363340764210078) = 174218842814042049 := by
    rw [show vNums 4 (powM 4 7 2305843009213691579) 395959045349903426 (powM 395959045349903426 8 2305843009213691579) 1125051477765462390 443363340764210078 = ([4, 16384, 395959045349903426, 102382884631579062, 1312901029696479932, 1481970882570046920] : List Int) from by kernel_rfl, wscF_eq _ _ (nats_of (by kernel_rfl))]
    kernel_rfl
  unfold verB
  rw [no_1_8_c, no_1_8_z, hw, show ((1125051477765462390 : Int) == 174218842814042049) = false from by kernel_rfl, Bool.and_false, Bool.and_false]
theorem no_2_10_k : pfK 10 4 395959045349903426 = 751442576128071416 := by
  unfold pfK
  rw [wscF_eq _ _ (nats_of (by kernel_rfl))]
  kernel_rfl
theorem no_2_10_c : pfC 10 4 395959045349903426 = 1075114570468223935 := by
  unfold pfC pfNums
  rw [no_2_10_k, show [4, powM 4 10 2305843009213691579, 395959045349903426, powM 395959045349903426 10 2305843009213691579, powM 4 751442576128071416 2305843009213691579, powM 395959045349903426 751442576128071416 2305843009213691579] = ([4, 1048576, 395959045349903426, 1708977987038452465, 1104587238381536895, 1383066778945144865] : List Int) from by kernel_rfl, wscF_eq _ _ (nats_of (by kernel_rfl))]
  kernel_rfl
theorem no_2_10_z : pfZ 10 4 395959045349903426 = 1126294739348698665 := by
  unfold pfZ
  rw [no_2_10_k, no_2_10_c]
  kernel_rfl
theorem no_2_10 : verB 4 (powM 4 9 2305843009213691579) 395959045349903426 (powM 395959045349903426 10 2305843009213691579) (pfC 10 4 395959045349903426) (pfZ 10 4 395959045349903426) = false := by
  have hw : wscZ wEq (vNums 4 (powM 4 9 2305843009213691579) 395959045349903426 (powM 395959045349903426 10 2305843009213691579) 1075114570468223935 1126294739348698665) = 803523995197351831 := by
    rw [show vNums 4 (powM 4 9 2305843009213691579) 395959045349903426 (powM 395959045349903426 10 2305843009213691579) 1075114570468223935 1126294739348698665 = ([4, 262144, 395959045349903426, 1708977987038452465, 1623943396928427581, 1383066778945144865] : List Int) from by kernel_rfl, wscF_eq _ _ (nats_of (by kernel_rfl))]
    kernel_rfl
  unfold verB
  rw [no_2_10_c, no_2_10_z, hw, show ((1075114570468223935 : Int) == 803523995197351831) = false from by kernel_rfl, Bool.and_false, Bool.and_false]
end Go.Proofs.YtlhfgbkonmgahaaGreatDoor

namespace Go.Proofs.YtlhfgbkonmgahaaGreatDoor
open Go.RowKit

def kC : List Int := [1024, 16]
def kR : List (List Int) := [[1, 2], [3, 4, 5]]
theorem kC_eq : cmTo [5, 2] ([5, 2] : List Int).length = kC := by kernel_rfl
theorem kR_right : rightKB kR kC = true := by kernel_rfl
theorem kR_n : ((gridN kR : Nat) : Int) = 5 := by kernel_rfl
theorem c52 : ∀ j, 0 ≤ ptAt [5, 2] j ∧ ptAt [5, 2] j < 1152921504606845789
  | 0 => ⟨by decide, by decide⟩
  | 1 => ⟨by decide, by decide⟩
  | _ + 2 => ⟨by show (0 : Int) ≤ 0; decide, by show (0 : Int) < _; decide⟩
theorem ev17 : evalV 1 7 3 = (1, powM (baseZ 3) 7 2305843009213691579, pfC 7 4 (baseZ 3), pfZ 7 4 (baseZ 3)) := by unfold evalV; rw [if_pos (by decide)]
theorem ev413 : evalV 4 13 3 = (4, powM (baseZ 3) 13 2305843009213691579, pfC 13 4 (baseZ 3), pfZ 13 4 (baseZ 3)) := by unfold evalV; rw [if_pos (by decide)]
theorem ev29 : evalV 2 9 3 = (2, powM (baseZ 3) 9 2305843009213691579, pfC 9 4 (baseZ 3), pfZ 9 4 (baseZ 3)) := by unfold evalV; rw [if_pos (by decide)]
theorem ev210 : evalV 2 10 3 = (2, powM (baseZ 3) 10 2305843009213691579, pfC 10 4 (baseZ 3), pfZ 10 4 (baseZ 3)) := by unfold evalV; rw [if_pos (by decide)]
theorem ev18 : evalV 1 8 3 = (1, powM (baseZ 3) 8 2305843009213691579, pfC 8 4 (baseZ 3), pfZ 8 4 (baseZ 3)) := by unfold evalV; rw [if_pos (by decide)]
theorem ev01 : evalV 0 1 3 = (0, 0, 0, 0) := by unfold evalV; rw [if_neg (by decide)]
theorem v1 : valZ [5, 2] 1 = 7 := by kernel_rfl
theorem v2 : valZ [5, 2] 2 = 9 := by kernel_rfl
theorem v4 : valZ [5, 2] 4 = 13 := by kernel_rfl
theorem ac17 : acB 5 kC 3 (evalV 1 7 3) = true := by
  have := ac_right (n := 5) (C := [5, 2]) 3 (x := 1) c52 (by decide) (by decide) (by decide)
  rw [v1, kC_eq] at this
  exact this
theorem ac413 : acB 5 kC 3 (evalV 4 13 3) = true := by
  have := ac_right (n := 5) (C := [5, 2]) 3 (x := 4) c52 (by decide) (by decide) (by decide)
  rw [v4, kC_eq] at this
  exact this
theorem ac29 : acB 5 kC 3 (evalV 2 9 3) = true := by
  have := ac_right (n := 5) (C := [5, 2]) 3 (x := 2) c52 (by decide) (by decide) (by decide)
  rw [v2, kC_eq] at this
  exact this
theorem at1 : atZ kC 1 = powM 4 7 2305843009213691579 := by rw [← kC_eq, at_law [5, 2] 1 c52, v1]
theorem at2 : atZ kC 2 = powM 4 9 2305843009213691579 := by rw [← kC_eq, at_law [5, 2] 2 c52, v2]
theorem ac18 : acB 5 kC 3 (evalV 1 8 3) = false := by
  rw [ev18]
  unfold acB
  dsimp only
  rw [at1, base3, no_1_8, Bool.and_false]
theorem ac210 : acB 5 kC 3 (evalV 2 10 3) = false := by
  rw [ev210]
  unfold acB
  dsimp only
  rw [at2, base3, no_2_10, Bool.and_false]
theorem pt_small {x : Int} (h1 : 1 ≤ x) (h2 : x ≤ 60) : ptB x = true := by
  unfold ptB
  rw [decide_eq_true h1, decide_eq_true (show x ≤ 1152921504606845788 by omega)]; rfl
theorem lift52 (l : List (Int × Int)) (hn : (l.map (·.1)).Nodup) (hl : 2 ≤ l.length) (hp : ∀ s ∈ l, (1 ≤ s.1 ∧ s.1 ≤ 60) ∧ s.2 = powM (baseZ 3) (valZ [5, 2] s.1) 2305843009213691579) :
    liftedZ (2 : Nat) l = powM (baseZ 3) 5 2305843009213691579 :=
  (lift_right l [5, 2] (baseZ 3) (base_mem 3) hn (by decide) hl ⟨by decide, by decide⟩ (fun s hs => ⟨pt_small (hp s hs).1.1 (hp s hs).1.2, (hp s hs).2⟩)).2
theorem comb1 : combR kR kC 3 [evalV 1 7 3, evalV 4 13 3] = (powM (baseZ 3) 5 2305843009213691579, [], 0) := by
  unfold combR
  rw [kR_right, kR_n, if_pos rfl]
  have hg : goodL 5 kC 3 [evalV 1 7 3, evalV 4 13 3] = [evalV 1 7 3, evalV 4 13 3] := by unfold goodL; simp [ac17, ac413]
  have hb : badL 5 kC 3 [evalV 1 7 3, evalV 4 13 3] = [] := by unfold badL; simp [ac17, ac413]
  have hc : combB 5 kC 3 [evalV 1 7 3, evalV 4 13 3] = [(1, powM (baseZ 3) 7 2305843009213691579), (4, powM (baseZ 3) 13 2305843009213691579)] := by
    unfold combB
    rw [hg, ev17, ev413]
    rfl
  rw [hb, hc, if_neg (by decide)]
  have := lift52 [(1, powM (baseZ 3) 7 2305843009213691579), (4, powM (baseZ 3) 13 2305843009213691579)] (by decide) (by decide) (by
    intro s hs
    simp only [List.mem_cons, List.not_mem_nil, or_false] at hs
    rcases hs with rfl | rfl
    · exact ⟨⟨by decide, by decide⟩, by dsimp only; rw [v1]⟩
    · exact ⟨⟨by decide, by decide⟩, by dsimp only; rw [v4]⟩)
  rw [show kC.length = 2 from rfl, this]
  rfl
theorem comb2 : combR kR kC 3 [evalV 1 7 3, evalV 2 10 3, evalV 2 9 3] = (powM (baseZ 3) 5 2305843009213691579, [2], 0) := by
  unfold combR
  rw [kR_right, kR_n, if_pos rfl]
  have hg : goodL 5 kC 3 [evalV 1 7 3, evalV 2 10 3, evalV 2 9 3] = [evalV 1 7 3, evalV 2 9 3] := by unfold goodL; simp [ac17, ac210, ac29]
  have hb : badL 5 kC 3 [evalV 1 7 3, evalV 2 10 3, evalV 2 9 3] = [evalV 2 10 3] := by unfold badL; simp [ac17, ac210, ac29]
  have hc : combB 5 kC 3 [evalV 1 7 3, evalV 2 10 3, evalV 2 9 3] = [(1, powM (baseZ 3) 7 2305843009213691579), (2, powM (baseZ 3) 9 2305843009213691579)] := by
    unfold combB
    rw [hg, ev17, ev29]
    rfl
  rw [hb, hc, if_neg (by decide), ev210]
  have := lift52 [(1, powM (baseZ 3) 7 2305843009213691579), (2, powM (baseZ 3) 9 2305843009213691579)] (by decide) (by decide) (by
    intro s hs
    simp only [List.mem_cons, List.not_mem_nil, or_false] at hs
    rcases hs with rfl | rfl
    · exact ⟨⟨by decide, by decide⟩, by dsimp only; rw [v1]⟩
    · exact ⟨⟨by decide, by decide⟩, by dsimp only; rw [v2]⟩)
  rw [show kC.length = 2 from rfl, this]
  rfl
theorem comb3 : combR kR kC 3 [evalV 1 7 3, evalV 1 7 3] = (0, [], 24) := by
  unfold combR
  rw [kR_right, kR_n, if_pos rfl]
  have hg : goodL 5 kC 3 [evalV 1 7 3, evalV 1 7 3] = [evalV 1 7 3, evalV 1 7 3] := by unfold goodL; simp [ac17]
  have hb : badL 5 kC 3 [evalV 1 7 3, evalV 1 7 3] = [] := by unfold badL; simp [ac17]
  have hc : combB 5 kC 3 [evalV 1 7 3, evalV 1 7 3] = [(1, powM (baseZ 3) 7 2305843009213691579)] := by
    unfold combB
    rw [hg, ev17]
    rfl
  rw [hb, hc, if_pos (by decide)]
  rfl
theorem decI0 : decI 0 = ⟨#[48]⟩ := by
  have := decI_nat 0
  rw [show ((0 : Nat) : Int) = 0 from rfl] at this
  rw [this]
  unfold decB
  rw [Lib.decDigits_one (by decide)]
  rfl
theorem text0 : textP (0, 0, 0, 0) = ⟨#[48, 32, 48, 32, 48, 32, 48]⟩ := by
  unfold textP joinI decsL
  simp only [List.map_cons, List.map_nil, decI0]
  kernel_rfl
end Go.Proofs.YtlhfgbkonmgahaaGreatDoor

namespace Go.Proofs.YtlhfgbkonmgahaaGreatDoor
open Go.RowKit

theorem p4s_lit (W : World) (L : List Pt4) (T : TypeId) (h : L.length ≤ 9223372036854775807) : P4sAt (W.alloc (.cells (prow L).toArray T)) (.slice (some ⟨W.heap.size, 0, none⟩) L.length L.length) L := by
  refine .inr ⟨W.heap.size, 0, L.length, rfl, by simp, Nat.le_refl _, h, fun j hj => ?_⟩
  have h1 := prow_at L j hj
  have hb := heap_alloc_last W (.cells (prow L).toArray T)
  rw [Nat.zero_add, cell_of_row _ _ (j * 4) _ _ _ hb, cell_of_row _ _ (j * 4 + 1) _ _ _ hb, cell_of_row _ _ (j * 4 + 2) _ _ _ hb, cell_of_row _ _ (j * 4 + 3) _ _ _ hb]
  simpa using h1
set_option maxHeartbeats 1000000 in
theorem san1_any (x y : Int) (w : World) (hG : Glob w) :
    Calls Tryz.prog 32 #[.int .i64 x, .int .i64 y] w fun e w' => e = .returned (.agg #[.int .i64 (evalV x y 3).1, .int .i64 (evalV x y 3).2.1, .int .i64 (evalV x y 3).2.2.1, .int .i64 (evalV x y 3).2.2.2]) ∧ Only (fun _ => False) w w' := by
  have hA := (Only.refl (fun _ => False) w).alloc (.cells #[.int .i64 0, .int .i64 0, .int .i64 0, .int .i64 0] 30)
  have HZ := Lib.hid (heap_alloc_last w (.cells #[.int .i64 0, .int .i64 0, .int .i64 0, .int .i64 0] 30))
  have HE := Lib.hid (peval_any x y 3 _ (by decide) (by decide) (hG.only hA))
  have HA := Lib.hid hA
  clear hA hG
  generalize (evalV x y 3).1 = a at *
  generalize (evalV x y 3).2.1 = b at *
  generalize (evalV x y 3).2.2.1 = c at *
  generalize (evalV x y 3).2.2.2 = d at *
  go_enter Tryz.func32, Tryz.ntmps32
  go_wp2_with fail
  refine HE.out.mono ?_
  rintro e w2 ⟨rfl, hO2⟩
  have HZ2 := Lib.hid (row_still hO2 HZ.out)
  have HO := Lib.hid (HA.out.trans hO2)
  clear hO2 HZ HA HE
  go_wp2_with (first | (refine wpList_store_row rfl 30 _ _ rfl w.heap.size #[.int .i64 a, .int .i64 b, .int .i64 c, .int .i64 d] rfl rfl 30 _ HZ2.out Tryz.infoPt rfl (pt_one _ _ _ _) ?_))
  exact bodyPost_ret (v := .agg #[.int .i64 a, .int .i64 b, .int .i64 c, .int .i64 d]) (results_cell_row rfl _ _ w.heap.size 30 #[.int .i64 a, .int .i64 b, .int .i64 c, .int .i64 d] (0, 0) _ rfl (setRow_heap _ _ _ _ _ _ HZ2.out) Tryz.underlying30 rfl Tryz.infoPt) rfl ⟨rfl, HO.out.setRow (Nat.le_refl _) _⟩
/-- The example's keys. -/
structure San9K (w W : World) (n : Nat) : Prop where
  com : PtsAt W.heap.size W (.slice (some ⟨n + 1, 0, none⟩) 2 2) kC
  grid : GridAt W (.slice (some ⟨n + 1 + 1 + 1 + 1, 0, none⟩) 2 2) kR
  row : W.heap[n + 1 + 1 + 1 + 1 + 1]? = some (.cells #[.slice (some ⟨n + 1, 0, none⟩) 2 2, .slice (some ⟨n + 1 + 1 + 1 + 1, 0, none⟩) 2 2] 41 (0, 0))
  only : Only (fun _ => False) w W
theorem pts_row {W : World} {g : Nat} {zs : List Int} {t : TypeId} (h : W.heap[g]? = some (.cells (irow zs).toArray t (0, 0))) (hl : zs.length ≤ 9223372036854775807) : PtsAt W.heap.size W (.slice (some ⟨g, 0, none⟩) zs.length zs.length) zs := by
  refine .inr ⟨g, 0, zs.length, rfl, own_lt0 h, Nat.le_refl _, hl, fun j hj => ?_⟩
  rw [Nat.zero_add, cell_of_row _ _ j _ _ _ h]
  have := irow_get zs j hj
  simpa using this
theorem san9_world (w : World) : San9K w ((((((w.alloc (.cells #[.int .i64 2305843009213691579] 3)).alloc (.cells #[.int .i64 1024, .int .i64 16] 3)).alloc (.cells #[.int .i64 1, .int .i64 2] 3)).alloc (.cells #[.int .i64 3, .int .i64 4, .int .i64 5] 3)).alloc (.cells #[.slice (some ⟨w.heap.size + 1 + 1, 0, none⟩) 2 2, .slice (some ⟨w.heap.size + 1 + 1 + 1, 0, none⟩) 3 3] 34)).alloc (.cells #[.slice (some ⟨w.heap.size + 1, 0, none⟩) 2 2, .slice (some ⟨w.heap.size + 1 + 1 + 1 + 1, 0, none⟩) 2 2] 41)) w.heap.size := by
  have o5 := (Only.refl (fun _ => False) (((((w.alloc (.cells #[.int .i64 2305843009213691579] 3)).alloc (.cells #[.int .i64 1024, .int .i64 16] 3)).alloc (.cells #[.int .i64 1, .int .i64 2] 3)).alloc (.cells #[.int .i64 3, .int .i64 4, .int .i64 5] 3)).alloc (.cells #[.slice (some ⟨w.heap.size + 1 + 1, 0, none⟩) 2 2, .slice (some ⟨w.heap.size + 1 + 1 + 1, 0, none⟩) 3 3] 34))).alloc (.cells #[.slice (some ⟨w.heap.size + 1, 0, none⟩) 2 2, .slice (some ⟨w.heap.size + 1 + 1 + 1 + 1, 0, none⟩) 2 2] 41)
  have o4 := ((Only.refl (fun _ => False) ((((w.alloc (.cells #[.int .i64 2305843009213691579] 3)).alloc (.cells #[.int .i64 1024, .int .i64 16] 3)).alloc (.cells #[.int .i64 1, .int .i64 2] 3)).alloc (.cells #[.int .i64 3, .int .i64 4, .int .i64 5] 3))).alloc (.cells #[.slice (some ⟨w.heap.size + 1 + 1, 0, none⟩) 2 2, .slice (some ⟨w.heap.size + 1 + 1 + 1, 0, none⟩) 3 3] 34)).trans o5
  have o3 := ((Only.refl (fun _ => False) (((w.alloc (.cells #[.int .i64 2305843009213691579] 3)).alloc (.cells #[.int .i64 1024, .int .i64 16] 3)).alloc (.cells #[.int .i64 1, .int .i64 2] 3))).alloc (.cells #[.int .i64 3, .int .i64 4, .int .i64 5] 3)).trans o4
  have o2 := ((Only.refl (fun _ => False) ((w.alloc (.cells #[.int .i64 2305843009213691579] 3)).alloc (.cells #[.int .i64 1024, .int .i64 16] 3))).alloc (.cells #[.int .i64 1, .int .i64 2] 3)).trans o3
  have h1 := row_still o2 (heap_alloc_last (w.alloc (.cells #[.int .i64 2305843009213691579] 3)) (.cells #[.int .i64 1024, .int .i64 16] 3))
  have h2 := row_still o3 (heap_alloc_last ((w.alloc (.cells #[.int .i64 2305843009213691579] 3)).alloc (.cells #[.int .i64 1024, .int .i64 16] 3)) (.cells #[.int .i64 1, .int .i64 2] 3))
  have h3 := row_still o4 (heap_alloc_last (((w.alloc (.cells #[.int .i64 2305843009213691579] 3)).alloc (.cells #[.int .i64 1024, .int .i64 16] 3)).alloc (.cells #[.int .i64 1, .int .i64 2] 3)) (.cells #[.int .i64 3, .int .i64 4, .int .i64 5] 3))
  have h4 := row_still o5 (heap_alloc_last ((((w.alloc (.cells #[.int .i64 2305843009213691579] 3)).alloc (.cells #[.int .i64 1024, .int .i64 16] 3)).alloc (.cells #[.int .i64 1, .int .i64 2] 3)).alloc (.cells #[.int .i64 3, .int .i64 4, .int .i64 5] 3)) (.cells #[.slice (some ⟨w.heap.size + 1 + 1, 0, none⟩) 2 2, .slice (some ⟨w.heap.size + 1 + 1 + 1, 0, none⟩) 3 3] 34))
  have h5 := heap_alloc_last (((((w.alloc (.cells #[.int .i64 2305843009213691579] 3)).alloc (.cells #[.int .i64 1024, .int .i64 16] 3)).alloc (.cells #[.int .i64 1, .int .i64 2] 3)).alloc (.cells #[.int .i64 3, .int .i64 4, .int .i64 5] 3)).alloc (.cells #[.slice (some ⟨w.heap.size + 1 + 1, 0, none⟩) 2 2, .slice (some ⟨w.heap.size + 1 + 1 + 1, 0, none⟩) 3 3] 34)) (.cells #[.slice (some ⟨w.heap.size + 1, 0, none⟩) 2 2, .slice (some ⟨w.heap.size + 1 + 1 + 1 + 1, 0, none⟩) 2 2] 41)
  have hO : Only (fun _ => False) w ((((((w.alloc (.cells #[.int .i64 2305843009213691579] 3)).alloc (.cells #[.int .i64 1024, .int .i64 16] 3)).alloc (.cells #[.int .i64 1, .int .i64 2] 3)).alloc (.cells #[.int .i64 3, .int .i64 4, .int .i64 5] 3)).alloc (.cells #[.slice (some ⟨w.heap.size + 1 + 1, 0, none⟩) 2 2, .slice (some ⟨w.heap.size + 1 + 1 + 1, 0, none⟩) 3 3] 34)).alloc (.cells #[.slice (some ⟨w.heap.size + 1, 0, none⟩) 2 2, .slice (some ⟨w.heap.size + 1 + 1 + 1 + 1, 0, none⟩) 2 2] 41)) := ((((((Only.refl (fun _ => False) w).alloc _).alloc _).alloc _).alloc _).alloc _).alloc _
  generalize hW : ((((((w.alloc (.cells #[.int .i64 2305843009213691579] 3)).alloc (.cells #[.int .i64 1024, .int .i64 16] 3)).alloc (.cells #[.int .i64 1, .int .i64 2] 3)).alloc (.cells #[.int .i64 3, .int .i64 4, .int .i64 5] 3)).alloc (.cells #[.slice (some ⟨w.heap.size + 1 + 1, 0, none⟩) 2 2, .slice (some ⟨w.heap.size + 1 + 1 + 1, 0, none⟩) 3 3] 34)).alloc (.cells #[.slice (some ⟨w.heap.size + 1, 0, none⟩) 2 2, .slice (some ⟨w.heap.size + 1 + 1 + 1 + 1, 0, none⟩) 2 2] 41)) = W at *
  clear hW
  simp only [World.size_alloc] at h1 h2 h3 h4 h5
  refine ⟨pts_row (zs := kC) h1 (by decide), ?_, h5, hO⟩
  refine .inr ⟨w.heap.size + 1 + 1 + 1 + 1, 0, 2, rfl, own_lt0 h4, Nat.le_refl _, by decide, fun j hj => ?_⟩
  match j, hj with
  | 0, _ => exact ⟨_, cell_of_row _ _ 0 _ _ _ h4, pts_row (zs := [1, 2]) h2 (by decide)⟩
  | 1, _ => exact ⟨_, cell_of_row _ _ 1 _ _ _ h4, pts_row (zs := [3, 4, 5]) h3 (by decide)⟩
theorem kR_short : ∀ k, k ≤ kR.length → gridTo kR k ≤ 1000000
  | 0, _ => by decide
  | 1, _ => by decide
  | 2, _ => by decide
theorem san9_comb (L : List Pt4) (n1 n4 : Nat) (W : World) (hcom : PtsAt W.heap.size W (.slice (some ⟨n1, 0, none⟩) 2 2) kC) (hgrid : GridAt W (.slice (some ⟨n4, 0, none⟩) 2 2) kR) (hG : Glob W) (hl : L.length ≤ 1000) :
    Calls Tryz.prog 22 #[.agg #[.slice (some ⟨n1, 0, none⟩) 2 2, .slice (some ⟨n4, 0, none⟩) 2 2], .int .i64 3, .slice (some ⟨W.heap.size, 0, none⟩) L.length L.length] (W.alloc (.cells (prow L).toArray 30)) fun e w' =>
      ∃ v, e = .returned (.tuple #[.int .i64 (combR kR kC 3 L).1, v, .int .i64 (combR kR kC 3 L).2.2]) ∧ w'.ownsRow W.heap.size 3 1 v (combR kR kC 3 L).2.1.length (irow (combR kR kC 3 L).2.1) ∧ Only (fun _ => False) W w' := by
  have hA := (Only.refl (fun _ => False) W).alloc (.cells (prow L).toArray 30)
  refine (bcombine_any _ L (some ⟨n1, 0, none⟩) (some ⟨n4, 0, none⟩) 2 2 kC kR 3 _ (p4s_lit W L _ (by omega)) (by omega) (hcom.only hA) (hgrid.only hA) kR_short (by decide) (by decide) (by decide) (hG.only hA)).mono ?_
  rintro e w' ⟨v, he, hown, hO⟩
  exact ⟨v, he, own_base hown (by rw [World.size_alloc]; omega), hA.trans hO⟩
set_option maxRecDepth 100000 in
set_option maxHeartbeats 8000000 in
theorem sanity9_any (w : World) (hG : Glob w) : Calls Tryz.prog 9 #[] w fun e w' => e = .returned (.bool true) ∧ Only (fun _ => False) w w' := by
  have HG := Lib.hid hG
  have hp5 : powM 4 5 2305843009213691579 = 1024 := by kernel_rfl
  have HP5 := Lib.hid (fun w => pow_any 4 5 2305843009213691579 w (by decide) (by decide) (by decide) (by decide))
  rw [hp5] at HP5
  clear hG hp5
  go_enter Tryz.func9, Tryz.ntmps9
  go_wp2_with fail
  refine (HP5.out _).mono ?_
  rintro e w1 ⟨rfl, rfl⟩
  go_wp2_with fail
  have HW := Lib.hid (san9_world w)
  generalize ((((((w.alloc (.cells #[.int .i64 2305843009213691579] 3)).alloc (.cells #[.int .i64 1024, .int .i64 16] 3)).alloc (.cells #[.int .i64 1, .int .i64 2] 3)).alloc (.cells #[.int .i64 3, .int .i64 4, .int .i64 5] 3)).alloc (.cells #[.slice (some ⟨w.heap.size + 1 + 1, 0, none⟩) 2 2, .slice (some ⟨w.heap.size + 1 + 1 + 1, 0, none⟩) 3 3] 34)).alloc (.cells #[.slice (some ⟨w.heap.size + 1, 0, none⟩) 2 2, .slice (some ⟨w.heap.size + 1 + 1 + 1 + 1, 0, none⟩) 2 2] 41)) = w5 at *
  have HKX := Lib.hid (fun W (hW : Only (fun _ => False) w5 W) => HG.out.only (HW.out.only.trans hW))
  refine (pbase_any 3 _ (by decide) (by decide) (HKX.out _ (Only.refl _ _))).mono ?_
  rintro e w6 ⟨rfl, hO6⟩
  have HO6 := Lib.hid hO6
  clear hO6
  obtain ⟨pw, hpw⟩ : ∃ pw, powM (baseZ 3) 5 2305843009213691579 = pw := ⟨_, rfl⟩
  have HPW := Lib.hid (fun w => pow_any (baseZ 3) 5 2305843009213691579 w (by decide) (by decide) (by decide) (by decide))
  rw [hpw] at HPW
  have hc1 := comb1
  have hc2 := comb2
  have hc3 := comb3
  rw [hpw] at hc1 hc2
  have HC1 := Lib.hid hc1
  have HC2 := Lib.hid hc2
  have HC3 := Lib.hid hc3
  clear hc1 hc2 hc3 hpw
  go_wp2_with fail
  refine (HPW.out _).mono ?_
  rintro e w7 ⟨rfl, rfl⟩
  have HO8 := Lib.hid (HO6.out.alloc (.cells #[.int .i64 2305843009213691579] 3))
  generalize w6.alloc (.cells #[.int .i64 2305843009213691579] 3) = w8 at *
  have hrow := row_still HO8.out HW.out.row
  have HCO := Lib.hid (fun W (hW : Only (fun _ => False) w8 W) => HW.out.com.only (HO8.out.trans hW))
  have HGR := Lib.hid (fun W (hW : Only (fun _ => False) w8 W) => HW.out.grid.only (HO8.out.trans hW))
  have HGW := Lib.hid (fun W (hW : Only (fun _ => False) w8 W) => HG.out.only (HW.out.only.trans (HO8.out.trans hW)))
  have HOW := Lib.hid (HW.out.only.trans HO8.out)
  clear HW HKX HO6 HPW HP5
  generalize w.heap.size + 1 + 1 + 1 + 1 + 1 = n5 at *
  generalize w.heap.size + 1 + 1 + 1 + 1 = n4 at *
  generalize w.heap.size + 1 + 1 + 1 = n3 at *
  generalize w.heap.size + 1 + 1 = n2 at *
  generalize w.heap.size + 1 = n1 at *
  have e0 : _ = some (Value.slice (some ⟨n1, 0, none⟩) 2 2) := cell_of_row _ _ 0 _ _ _ hrow
  have e1 : _ = some (Value.slice (some ⟨n4, 0, none⟩) 2 2) := cell_of_row _ _ 1 _ _ _ hrow
  clear hrow
  go_upto_region 4 with fail
  have HKS := Lib.hid (show ∀ W, Only (fun _ => False) w8 W → W.cell? ⟨n5, 0, none⟩ = some (.slice (some ⟨n1, 0, none⟩) 2 2) ∧ W.cell? ⟨n5, 1, none⟩ = some (.slice (some ⟨n4, 0, none⟩) 2 2) ∧ Only (fun _ => False) w8 W from fun W h => ⟨h.cell e0 id, h.cell e1 id, h⟩)
  have HEV := Lib.hid (show ∀ x y W, (W.cell? ⟨n5, 0, none⟩ = some (.slice (some ⟨n1, 0, none⟩) 2 2) ∧ W.cell? ⟨n5, 1, none⟩ = some (.slice (some ⟨n4, 0, none⟩) 2 2) ∧ Only (fun _ => False) w8 W) → Calls Tryz.prog 32 #[.int .i64 x, .int .i64 y] W (fun e wT => e = .returned (.agg #[.int .i64 (evalV x y 3).1, .int .i64 (evalV x y 3).2.1, .int .i64 (evalV x y 3).2.2.1, .int .i64 (evalV x y 3).2.2.2]) ∧ (wT.cell? ⟨n5, 0, none⟩ = some (.slice (some ⟨n1, 0, none⟩) 2 2) ∧ wT.cell? ⟨n5, 1, none⟩ = some (.slice (some ⟨n4, 0, none⟩) 2 2) ∧ Only (fun _ => False) w8 wT)) from fun x y W h => (san1_any x y W (HGW.out _ h.2.2)).mono fun _ _ k => ⟨k.1, HKS.out _ (h.2.2.trans k.2)⟩)
  have HCB := Lib.hid (show ∀ W, (W.cell? ⟨n5, 0, none⟩ = some (.slice (some ⟨n1, 0, none⟩) 2 2) ∧ W.cell? ⟨n5, 1, none⟩ = some (.slice (some ⟨n4, 0, none⟩) 2 2) ∧ Only (fun _ => False) w8 W) → Calls Tryz.prog 22 #[.agg #[.slice (some ⟨n1, 0, none⟩) 2 2, .slice (some ⟨n4, 0, none⟩) 2 2], .int .i64 3, .slice (some ⟨W.heap.size, 0, none⟩) 2 2] (W.alloc (.cells #[.int .i64 (evalV 1 7 3).1, .int .i64 (evalV 1 7 3).2.1, .int .i64 (evalV 1 7 3).2.2.1, .int .i64 (evalV 1 7 3).2.2.2, .int .i64 (evalV 4 13 3).1, .int .i64 (evalV 4 13 3).2.1, .int .i64 (evalV 4 13 3).2.2.1, .int .i64 (evalV 4 13 3).2.2.2] 30)) (fun e wT => (∃ v, e = .returned (.tuple #[.int .i64 pw, v, .int .i64 0]) ∧ wT.ownsRow w8.heap.size 3 1 v 0 (irow [])) ∧ (wT.cell? ⟨n5, 0, none⟩ = some (.slice (some ⟨n1, 0, none⟩) 2 2) ∧ wT.cell? ⟨n5, 1, none⟩ = some (.slice (some ⟨n4, 0, none⟩) 2 2) ∧ Only (fun _ => False) w8 wT)) from fun W h => by
    have := san9_comb [evalV 1 7 3, evalV 4 13 3] n1 n4 W (HCO.out _ h.2.2) (HGR.out _ h.2.2) (HGW.out _ h.2.2) (by decide)
    rw [HC1.out] at this
    refine Calls.mono this ?_
    rintro e wT ⟨v, he, hown, hO⟩
    exact ⟨⟨v, he, own_base hown h.2.2.size⟩, HKS.out _ (h.2.2.trans hO)⟩)
  go_cut [4, 5, 6] (fun va vb vc wx => va = .int .i64 pw ∧ wx.ownsRow w8.heap.size 3 1 vb 0 (irow []) ∧ vc = .int .i64 0 ∧ Only (fun _ => False) w8 wx)
  case first =>
    go_region_held3 (fun w' => w'.cell? ⟨n5, 0, none⟩ = some (.slice (some ⟨n1, 0, none⟩) 2 2) ∧ w'.cell? ⟨n5, 1, none⟩ = some (.slice (some ⟨n4, 0, none⟩) 2 2) ∧ Only (fun _ => False) w8 w')
      (first
        | with_reducible exact HKS.out _ ((Only.refl _ w8).drew)
        | with_reducible exact hS1
        | with_reducible exact hS2
        | exact HKS.out _ (hS1.2.2.alloc _))
      (first
        | (go_at_call 32; with_reducible refine (HEV.out _ _ _ (by assumption)).mono ?_; rintro e wK ⟨rfl, hS1⟩)
        | (go_at_call 22; with_reducible refine (HCB.out _ hS1).mono ?_; rintro e wN ⟨⟨v, rfl, hv⟩, hS2⟩))
    clear HEV HCB HKS
    go_wp2_with fail
    go_meet
    exact ⟨rfl, hv, rfl, hS2.2.2⟩
  case rest =>
    obtain ⟨rfl, hnone, rfl, hOw9⟩ := hcut
    generalize wc = w9 at *
    have e0 : _ = some (Value.slice (some ⟨n1, 0, none⟩) 2 2) := hOw9.cell e0 id
    have e1 : _ = some (Value.slice (some ⟨n4, 0, none⟩) 2 2) := hOw9.cell e1 id
    have HCO := Lib.hid (fun W (hW : Only (fun _ => False) w9 W) => HCO.out W (hOw9.trans hW))
    have HGR := Lib.hid (fun W (hW : Only (fun _ => False) w9 W) => HGR.out W (hOw9.trans hW))
    have HGW := Lib.hid (fun W (hW : Only (fun _ => False) w9 W) => HGW.out W (hOw9.trans hW))
    have HOW := Lib.hid (HOW.out.trans hOw9)
    obtain ⟨an, cn, hvn⟩ := slice_of_own hnone
    subst hvn
    clear hnone hOw9 HKS HEV HCB HO8
    go_upto_region 5 with fail
    have HKS := Lib.hid (show ∀ W, Only (fun _ => False) w9 W → W.cell? ⟨n5, 0, none⟩ = some (.slice (some ⟨n1, 0, none⟩) 2 2) ∧ W.cell? ⟨n5, 1, none⟩ = some (.slice (some ⟨n4, 0, none⟩) 2 2) ∧ Only (fun _ => False) w9 W from fun W h => ⟨h.cell e0 id, h.cell e1 id, h⟩)
    have HEV := Lib.hid (show ∀ x y W, (W.cell? ⟨n5, 0, none⟩ = some (.slice (some ⟨n1, 0, none⟩) 2 2) ∧ W.cell? ⟨n5, 1, none⟩ = some (.slice (some ⟨n4, 0, none⟩) 2 2) ∧ Only (fun _ => False) w9 W) → Calls Tryz.prog 32 #[.int .i64 x, .int .i64 y] W (fun e wT => e = .returned (.agg #[.int .i64 (evalV x y 3).1, .int .i64 (evalV x y 3).2.1, .int .i64 (evalV x y 3).2.2.1, .int .i64 (evalV x y 3).2.2.2]) ∧ (wT.cell? ⟨n5, 0, none⟩ = some (.slice (some ⟨n1, 0, none⟩) 2 2) ∧ wT.cell? ⟨n5, 1, none⟩ = some (.slice (some ⟨n4, 0, none⟩) 2 2) ∧ Only (fun _ => False) w9 wT)) from fun x y W h => (san1_any x y W (HGW.out _ h.2.2)).mono fun _ _ k => ⟨k.1, HKS.out _ (h.2.2.trans k.2)⟩)
    have HCB := Lib.hid (show ∀ W, (W.cell? ⟨n5, 0, none⟩ = some (.slice (some ⟨n1, 0, none⟩) 2 2) ∧ W.cell? ⟨n5, 1, none⟩ = some (.slice (some ⟨n4, 0, none⟩) 2 2) ∧ Only (fun _ => False) w9 W) → Calls Tryz.prog 22 #[.agg #[.slice (some ⟨n1, 0, none⟩) 2 2, .slice (some ⟨n4, 0, none⟩) 2 2], .int .i64 3, .slice (some ⟨W.heap.size, 0, none⟩) 3 3] (W.alloc (.cells #[.int .i64 (evalV 1 7 3).1, .int .i64 (evalV 1 7 3).2.1, .int .i64 (evalV 1 7 3).2.2.1, .int .i64 (evalV 1 7 3).2.2.2, .int .i64 (evalV 2 10 3).1, .int .i64 (evalV 2 10 3).2.1, .int .i64 (evalV 2 10 3).2.2.1, .int .i64 (evalV 2 10 3).2.2.2, .int .i64 (evalV 2 9 3).1, .int .i64 (evalV 2 9 3).2.1, .int .i64 (evalV 2 9 3).2.2.1, .int .i64 (evalV 2 9 3).2.2.2] 30)) (fun e wT => (∃ v, e = .returned (.tuple #[.int .i64 pw, v, .int .i64 0]) ∧ wT.ownsRow w9.heap.size 3 1 v 1 (irow [2])) ∧ (wT.cell? ⟨n5, 0, none⟩ = some (.slice (some ⟨n1, 0, none⟩) 2 2) ∧ wT.cell? ⟨n5, 1, none⟩ = some (.slice (some ⟨n4, 0, none⟩) 2 2) ∧ Only (fun _ => False) w9 wT)) from fun W h => by
      have := san9_comb [evalV 1 7 3, evalV 2 10 3, evalV 2 9 3] n1 n4 W (HCO.out _ h.2.2) (HGR.out _ h.2.2) (HGW.out _ h.2.2) (by decide)
      rw [HC2.out] at this
      refine Calls.mono this ?_
      rintro e wT ⟨v, he, hown, hO⟩
      exact ⟨⟨v, he, own_base hown h.2.2.size⟩, HKS.out _ (h.2.2.trans hO)⟩)
    go_cut [7, 8, 9] (fun va vb vc wx => va = .int .i64 pw ∧ wx.ownsRow w9.heap.size 3 1 vb 1 (irow [2]) ∧ vc = .int .i64 0 ∧ Only (fun _ => False) w9 wx)
    case first =>
      go_region_held3 (fun w' => w'.cell? ⟨n5, 0, none⟩ = some (.slice (some ⟨n1, 0, none⟩) 2 2) ∧ w'.cell? ⟨n5, 1, none⟩ = some (.slice (some ⟨n4, 0, none⟩) 2 2) ∧ Only (fun _ => False) w9 w')
        (first
          | with_reducible exact HKS.out _ ((Only.refl _ w9).drew)
          | with_reducible exact hS1
          | with_reducible exact hS2
          | exact HKS.out _ (hS1.2.2.alloc _))
        (first
          | (go_at_call 32; with_reducible refine (HEV.out _ _ _ (by assumption)).mono ?_; rintro e wK ⟨rfl, hS1⟩)
          | (go_at_call 22; with_reducible refine (HCB.out _ hS1).mono ?_; rintro e wN ⟨⟨v, rfl, hv⟩, hS2⟩))
      clear HEV HCB HKS
      go_wp2_with fail
      go_meet
      exact ⟨rfl, hv, rfl, hS2.2.2⟩
    case rest =>
      obtain ⟨rfl, htwo, rfl, hOw10⟩ := hcut
      generalize wc = w10 at *
      have e0 : _ = some (Value.slice (some ⟨n1, 0, none⟩) 2 2) := hOw10.cell e0 id
      have e1 : _ = some (Value.slice (some ⟨n4, 0, none⟩) 2 2) := hOw10.cell e1 id
      have HCO := Lib.hid (fun W (hW : Only (fun _ => False) w10 W) => HCO.out W (hOw10.trans hW))
      have HGR := Lib.hid (fun W (hW : Only (fun _ => False) w10 W) => HGR.out W (hOw10.trans hW))
      have HGW := Lib.hid (fun W (hW : Only (fun _ => False) w10 W) => HGW.out W (hOw10.trans hW))
      have HOW := Lib.hid (HOW.out.trans hOw10)
      have HTW := Lib.hid htwo
      obtain ⟨at2', ct2, hvt⟩ := slice_of_own htwo
      subst hvt
      clear htwo hOw10 HKS HEV HCB
      go_upto_region 6 with fail
      have HKS := Lib.hid (show ∀ W, Only (fun _ => False) w10 W → W.cell? ⟨n5, 0, none⟩ = some (.slice (some ⟨n1, 0, none⟩) 2 2) ∧ W.cell? ⟨n5, 1, none⟩ = some (.slice (some ⟨n4, 0, none⟩) 2 2) ∧ Only (fun _ => False) w10 W from fun W h => ⟨h.cell e0 id, h.cell e1 id, h⟩)
      have HEV := Lib.hid (show ∀ x y W, (W.cell? ⟨n5, 0, none⟩ = some (.slice (some ⟨n1, 0, none⟩) 2 2) ∧ W.cell? ⟨n5, 1, none⟩ = some (.slice (some ⟨n4, 0, none⟩) 2 2) ∧ Only (fun _ => False) w10 W) → Calls Tryz.prog 32 #[.int .i64 x, .int .i64 y] W (fun e wT => e = .returned (.agg #[.int .i64 (evalV x y 3).1, .int .i64 (evalV x y 3).2.1, .int .i64 (evalV x y 3).2.2.1, .int .i64 (evalV x y 3).2.2.2]) ∧ (wT.cell? ⟨n5, 0, none⟩ = some (.slice (some ⟨n1, 0, none⟩) 2 2) ∧ wT.cell? ⟨n5, 1, none⟩ = some (.slice (some ⟨n4, 0, none⟩) 2 2) ∧ Only (fun _ => False) w10 wT)) from fun x y W h => (san1_any x y W (HGW.out _ h.2.2)).mono fun _ _ k => ⟨k.1, HKS.out _ (h.2.2.trans k.2)⟩)
      have HCB := Lib.hid (show ∀ W, (W.cell? ⟨n5, 0, none⟩ = some (.slice (some ⟨n1, 0, none⟩) 2 2) ∧ W.cell? ⟨n5, 1, none⟩ = some (.slice (some ⟨n4, 0, none⟩) 2 2) ∧ Only (fun _ => False) w10 W) → Calls Tryz.prog 22 #[.agg #[.slice (some ⟨n1, 0, none⟩) 2 2, .slice (some ⟨n4, 0, none⟩) 2 2], .int .i64 3, .slice (some ⟨W.heap.size, 0, none⟩) 2 2] (W.alloc (.cells #[.int .i64 (evalV 1 7 3).1, .int .i64 (evalV 1 7 3).2.1, .int .i64 (evalV 1 7 3).2.2.1, .int .i64 (evalV 1 7 3).2.2.2, .int .i64 (evalV 1 7 3).1, .int .i64 (evalV 1 7 3).2.1, .int .i64 (evalV 1 7 3).2.2.1, .int .i64 (evalV 1 7 3).2.2.2] 30)) (fun e wT => (∃ v, e = .returned (.tuple #[.int .i64 0, v, .int .i64 24]) ∧ wT.ownsRow w10.heap.size 3 1 v 0 (irow [])) ∧ (wT.cell? ⟨n5, 0, none⟩ = some (.slice (some ⟨n1, 0, none⟩) 2 2) ∧ wT.cell? ⟨n5, 1, none⟩ = some (.slice (some ⟨n4, 0, none⟩) 2 2) ∧ Only (fun _ => False) w10 wT)) from fun W h => by
        have := san9_comb [evalV 1 7 3, evalV 1 7 3] n1 n4 W (HCO.out _ h.2.2) (HGR.out _ h.2.2) (HGW.out _ h.2.2) (by decide)
        rw [HC3.out] at this
        refine Calls.mono this ?_
        rintro e wT ⟨v, he, hown, hO⟩
        exact ⟨⟨v, he, own_base hown h.2.2.size⟩, HKS.out _ (h.2.2.trans hO)⟩)
      go_cut [10, 11, 12] (fun va vb vc wx => va = .int .i64 0 ∧ wx.ownsRow w10.heap.size 3 1 vb 0 (irow []) ∧ vc = .int .i64 24 ∧ Only (fun _ => False) w10 wx)
      case first =>
        go_region_held3 (fun w' => w'.cell? ⟨n5, 0, none⟩ = some (.slice (some ⟨n1, 0, none⟩) 2 2) ∧ w'.cell? ⟨n5, 1, none⟩ = some (.slice (some ⟨n4, 0, none⟩) 2 2) ∧ Only (fun _ => False) w10 w')
          (first
            | with_reducible exact HKS.out _ ((Only.refl _ w10).drew)
            | with_reducible exact hS1
            | with_reducible exact hS2
            | exact HKS.out _ (hS1.2.2.alloc _))
          (first
            | (go_at_call 32; with_reducible refine (HEV.out _ _ _ (by assumption)).mono ?_; rintro e wK ⟨rfl, hS1⟩)
            | (go_at_call 22; with_reducible refine (HCB.out _ hS1).mono ?_; rintro e wN ⟨⟨v, rfl, hv⟩, hS2⟩))
        clear HEV HCB HKS
        go_wp2_with fail
        go_meet
        exact ⟨rfl, hv, rfl, hS2.2.2⟩
      case rest =>
        obtain ⟨rfl, hfew, rfl, hOw11⟩ := hcut
        generalize wc = w11 at *
        have e0 : _ = some (Value.slice (some ⟨n1, 0, none⟩) 2 2) := hOw11.cell e0 id
        have e1 : _ = some (Value.slice (some ⟨n4, 0, none⟩) 2 2) := hOw11.cell e1 id
        have HCO := Lib.hid (fun W (hW : Only (fun _ => False) w11 W) => HCO.out W (hOw11.trans hW))
        have HGR := Lib.hid (fun W (hW : Only (fun _ => False) w11 W) => HGR.out W (hOw11.trans hW))
        have HGW := Lib.hid (fun W (hW : Only (fun _ => False) w11 W) => HGW.out W (hOw11.trans hW))
        have HOW := Lib.hid (HOW.out.trans hOw11)
        have HTW := Lib.hid (hOw11.owns HTW.out (fun _ _ h => h))
        clear hfew hOw11 HKS HEV HCB HC1 HC2 HC3
        have q17 : acB 5 kC 3 ((evalV 1 7 3).1, (evalV 1 7 3).2.1, (evalV 1 7 3).2.2.1, (evalV 1 7 3).2.2.2) = true := ac17
        have q18 : acB 5 kC 3 ((evalV 1 8 3).1, (evalV 1 8 3).2.1, (evalV 1 8 3).2.2.1, (evalV 1 8 3).2.2.2) = false := ac18
        have HEV := Lib.hid (fun x y W (hW : Only (fun _ => False) w11 W) => san1_any x y W (HGW.out _ hW))
        have HVF := Lib.hid (show ∀ x v c z bb, acB 5 kC 3 (x, v, c, z) = bb → ∀ W, Only (fun _ => False) w11 W → Calls Tryz.prog 17 #[.agg #[.slice (some ⟨n1, 0, none⟩) 2 2, .slice (some ⟨n4, 0, none⟩) 2 2], .int .i64 3, .agg #[.int .i64 x, .int .i64 v, .int .i64 c, .int .i64 z]] W fun e w' => e = .returned (.bool bb) ∧ Only (fun _ => False) W w' from fun x v c z bb hbb W hW => by
          have := bverify_any (some ⟨n1, 0, none⟩) (some ⟨n4, 0, none⟩) 2 2 kC kR 3 x v c z W (HCO.out _ hW) (HGR.out _ hW) kR_short (by decide) (by decide) (by decide) (HGW.out _ hW)
          rw [kR_right, kR_n, Bool.true_and, hbb] at this
          exact this)
        have y0 := fun (d : Nat) (os : Array Obj) => cell_regrown e0 d os
        have y1 := fun (d : Nat) (os : Array Obj) => cell_regrown e1 d os
        clear e0 e1
        go_wp2_with fail
        refine wp_region_quiet_below (by kernel_rfl) (by kernel_rfl) ?_
        repeat (go_big_quiet_step ((first | (go_at_call 32; exact Calls.regrown_of ((HEV.out _ _ _ (Only.ofBelow (below_regrown _ _ _) _)).mono fun _ _ h => ⟨h.1, h.2.below (Nat.le_refl _) (fun _ _ h => h)⟩)) | (go_at_call 17; exact Calls.regrown_of ((HVF.out _ _ _ _ _ (by assumption) _ (Only.ofBelow (below_regrown _ _ _) _)).mono fun _ _ h => ⟨h.1, h.2.below (Nat.le_refl _) (fun _ _ h => h)⟩)))))
        refine wpQuiet_nil ?_
        intro w12 hw'
        obtain ⟨pq, hw''⟩ := hw'
        have HO12 := Lib.hid (Only.ofBelow (below_regrown w11 pq.d pq.os) (fun _ => False))
        rw [← hw''] at HO12
        have HTW := Lib.hid (HO12.out.owns HTW.out (fun _ _ h => h))
        have HGW := Lib.hid (fun W (hW : Only (fun _ => False) w12 W) => HGW.out W (HO12.out.trans hW))
        have HOW := Lib.hid (HOW.out.trans HO12.out)
        clear hw'' y0 y1 q17 q18 HEV HVF HO12
        go_wp2_with fail
        have hI := (pts_of_own (zs := [2]) HTW.out (by decide)).only ((Only.refl (fun _ => False) w12).alloc (.cells #[.int .i64 2] 3))
        have hN := pts_lit w12 [2] 3 (by decide)
        refine (rints9_is (.slice at2' 1 ct2) (.slice (some ⟨w12.heap.size, 0, none⟩) 1 1) [2] [2] true _ (by decide) hI hN (by decide)).mono ?_
        rintro e w13 ⟨rfl, nq, rfl⟩
        have HO13 := Lib.hid (((Only.refl (fun _ => False) w12).alloc (.cells #[.int .i64 2] 3)).drewN nq)
        have HE01 := Lib.hid (show ∀ W, Glob W → Calls Tryz.prog 32 #[.int .i64 0, .int .i64 1] W fun e w' => e = .returned (.agg #[.int .i64 0, .int .i64 0, .int .i64 0, .int .i64 0]) ∧ Only (fun _ => False) W w' from fun W h => by
          have := san1_any 0 1 W h
          rw [ev01] at this
          exact this)
        have HTX := Lib.hid (show ∀ W, Glob W → Calls Tryz.prog 28 #[.agg #[.int .i64 0, .int .i64 0, .int .i64 0, .int .i64 0]] W fun e w' => e = .returned (.string ⟨#[48, 32, 48, 32, 48, 32, 48]⟩) ∧ Only (fun _ => False) W w' from fun W h => by
          have := btext_any 0 0 0 0 W ⟨by decide, by decide⟩ ⟨by decide, by decide⟩ ⟨by decide, by decide⟩ ⟨by decide, by decide⟩ h
          rw [text0] at this
          exact this)
        clear hI hN HTW HCO HGR
        generalize (w12.alloc (.cells #[.int .i64 2] 3)).drewN nq = w13 at *
        go_wp2_with fail
        refine (HE01.out _ (HGW.out _ HO13.out)).mono ?_
        rintro e w14 ⟨rfl, hO14⟩
        have HO14 := Lib.hid (HO13.out.trans hO14)
        clear hO14
        go_wp2_with fail
        refine (HTX.out _ (HGW.out _ HO14.out)).mono ?_
        rintro e w15 ⟨rfl, hO15⟩
        have HO15 := Lib.hid (HOW.out.trans (HO14.out.trans hO15))
        clear hO15
        go_wp2
        go_ret
        exact ⟨rfl, HO15.out⟩
end Go.Proofs.YtlhfgbkonmgahaaGreatDoor

namespace Go.Proofs.YtlhfgbkonmgahaaGreatDoor
open Go.RowKit

/-- A slice of bytes. -/
def BytsAt (W : World) (sv : Value) (l : List Int) : Prop :=
  (∃ a c, sv = .slice a 0 c ∧ l = []) ∨ ∃ b off cap, sv = .slice (some ⟨b, off, none⟩) l.length cap ∧ b < W.heap.size ∧ l.length ≤ cap ∧ cap ≤ 9223372036854775807 ∧
    ∀ j, j < l.length → W.cell? ⟨b, off + j, none⟩ = some (.int .u8 (ptAt l j)) ∧ 0 ≤ ptAt l j ∧ ptAt l j ≤ 255
theorem BytsAt.only {A B : World} (h : Only (fun _ => False) A B) {sv : Value} {l : List Int} : BytsAt A sv l → BytsAt B sv l
  | .inl e => .inl e
  | .inr ⟨b, off, cap, e, hb, h1, h2, hc⟩ => .inr ⟨b, off, cap, e, Nat.lt_of_lt_of_le hb h.size, h1, h2, fun j hj => ⟨h.cell (hc j hj).1 id, (hc j hj).2⟩⟩
theorem BytsAt.slice {W : World} {sv : Value} {l : List Int} (h : BytsAt W sv l) : ∃ a c, sv = .slice a l.length c := by
  rcases h with ⟨a, c, rfl, rfl⟩ | ⟨b, off, cap, rfl, _⟩
  · exact ⟨a, c, rfl⟩
  · exact ⟨_, _, rfl⟩
theorem BytsAt.at {W : World} {a : Option Addr} {c k : Nat} {l : List Int} (h : BytsAt W (.slice a l.length c) l) (hk : k < l.length) :
    ∃ b off, a = some ⟨b, off, none⟩ ∧ b < W.heap.size ∧ l.length ≤ c ∧ c ≤ 9223372036854775807 ∧ W.cell? ⟨b, off + k, none⟩ = some (.int .u8 (ptAt l k)) ∧ 0 ≤ ptAt l k ∧ ptAt l k ≤ 255 := by
  rcases h with ⟨_, _, _, h0⟩ | ⟨b, off, cap, hv, hb, h1, h2, hc⟩
  · rw [h0] at hk; simp at hk
  · simp only [Value.slice.injEq, true_and] at hv
    obtain ⟨rfl, rfl⟩ := hv
    exact ⟨b, off, rfl, hb, h1, h2, hc k hk⟩
/-- A slice of picks: pairs of bytes. -/
def PksAt (W : World) (sv : Value) (l : List (Int × Int)) : Prop :=
  (∃ a c, sv = .slice a 0 c ∧ l = []) ∨ ∃ b off cap, sv = .slice (some ⟨b, off, none⟩) l.length cap ∧ b < W.heap.size ∧ l.length ≤ cap ∧ cap ≤ 9223372036854775807 ∧
    ∀ j, j < l.length → (W.cell? ⟨b, off + j * 2, none⟩ = some (.int .u8 (shAt l j).1) ∧ W.cell? ⟨b, off + j * 2 + 1, none⟩ = some (.int .u8 (shAt l j).2)) ∧ (0 ≤ (shAt l j).1 ∧ (shAt l j).1 ≤ 255) ∧ (0 ≤ (shAt l j).2 ∧ (shAt l j).2 ≤ 255)
theorem PksAt.only {A B : World} (h : Only (fun _ => False) A B) {sv : Value} {l : List (Int × Int)} : PksAt A sv l → PksAt B sv l
  | .inl e => .inl e
  | .inr ⟨b, off, cap, e, hb, h1, h2, hc⟩ => .inr ⟨b, off, cap, e, Nat.lt_of_lt_of_le hb h.size, h1, h2, fun j hj => ⟨⟨h.cell (hc j hj).1.1 id, h.cell (hc j hj).1.2 id⟩, (hc j hj).2⟩⟩
theorem PksAt.slice {W : World} {sv : Value} {l : List (Int × Int)} (h : PksAt W sv l) : ∃ a c, sv = .slice a l.length c := by
  rcases h with ⟨a, c, rfl, rfl⟩ | ⟨b, off, cap, rfl, _⟩
  · exact ⟨a, c, rfl⟩
  · exact ⟨_, _, rfl⟩
theorem PksAt.at {W : World} {a : Option Addr} {c k : Nat} {l : List (Int × Int)} (h : PksAt W (.slice a l.length c) l) (hk : k < l.length) :
    ∃ b off, a = some ⟨b, off, none⟩ ∧ b < W.heap.size ∧ l.length ≤ c ∧ c ≤ 9223372036854775807 ∧ (W.cell? ⟨b, off + k * 2, none⟩ = some (.int .u8 (shAt l k).1) ∧ W.cell? ⟨b, off + k * 2 + 1, none⟩ = some (.int .u8 (shAt l k).2)) ∧ (0 ≤ (shAt l k).1 ∧ (shAt l k).1 ≤ 255) ∧ (0 ≤ (shAt l k).2 ∧ (shAt l k).2 ≤ 255) := by
  rcases h with ⟨_, _, _, h0⟩ | ⟨b, off, cap, hv, hb, h1, h2, hc⟩
  · rw [h0] at hk; simp at hk
  · simp only [Value.slice.injEq, true_and] at hv
    obtain ⟨rfl, rfl⟩ := hv
    exact ⟨b, off, rfl, hb, h1, h2, hc k hk⟩
/-- Members by weights: of the first k numbers. -/
def plW (ws : List Int) : Nat → List Mb
  | 0 => []
  | k + 1 => plW ws k ++ [⟨(k : Int) + 1, 1 + ptAt ws k % 7, 0⟩]
/-- The sum of the first k weights. -/
def plS (ws : List Int) : Nat → Int
  | 0 => 0
  | k + 1 => plS ws k + (1 + ptAt ws k % 7)
theorem plW_len (ws : List Int) : ∀ k, (plW ws k).length = k
  | 0 => rfl
  | k + 1 => by rw [plW, List.length_append, plW_len ws k]; rfl
theorem plW_at (ws : List Int) : ∀ k j, j < k → mbAt (plW ws k) j = ⟨(j : Int) + 1, 1 + ptAt ws j % 7, 0⟩
  | k + 1, j, h => by
    unfold mbAt
    rw [plW, getD_snoc, plW_len]
    by_cases e : j < k
    · rw [if_pos e]; exact plW_at ws k j e
    · obtain rfl : j = k := by omega
      rw [if_neg e, if_pos rfl]
theorem plW_sum (ws : List Int) (k : Nat) : ∀ j, j ≤ k → sumTo (plW ws k) j = plS ws j
  | 0, _ => rfl
  | j + 1, h => by rw [sumTo, plS, plW_sum ws k j (by omega), plW_at ws k j (by omega)]
theorem plS_bd (ws : List Int) : ∀ k : Nat, (k : Int) ≤ plS ws k ∧ plS ws k ≤ 7 * k
  | 0 => ⟨Int.le_refl _, Int.le_refl _⟩
  | k + 1 => by
    have := plS_bd ws k
    rw [plS]
    omega
theorem plW_ok (ws : List Int) (k : Nat) : ∀ j, j ≤ k → mbOk (plW ws k) j = true
  | 0, _ => rfl
  | j + 1, h => by
    have hi : inTo (ids (plW ws k)) j (mbAt (plW ws k) j).id = false := inTo_not _ _ _ (fun i hi e => by
      rw [ptAt_ids, plW_at ws k i (by omega), plW_at ws k j (by omega)] at e
      dsimp only at e
      omega)
    rw [mbOk, plW_ok ws k j (by omega), hi, plW_at ws k j (by omega)]
    dsimp only
    rw [decide_eq_true (show 1 ≤ 1 + ptAt ws j % 7 by omega), decide_eq_true (show 1 + ptAt ws j % 7 ≤ 20 by omega)]
    rfl
/-- The members of a poll. -/
def plM (ws : List Int) : List Mb := if ws.length = 0 then [⟨1, 5, 0⟩] else plW ws (min 8 ws.length)
theorem pl_right (ws : List Int) : rightB (plM ws) = true := by
  unfold plM
  split
  · kernel_rfl
  · next h =>
    have hb := plS_bd ws (min 8 ws.length)
    unfold rightB
    rw [plW_len, plW_ok ws _ _ (Nat.le_refl _), plW_sum ws _ _ (Nat.le_refl _), decide_eq_true (show 1 ≤ min 8 ws.length by omega), decide_eq_true (show min 8 ws.length ≤ 13 by omega), decide_eq_true (show plS ws (min 8 ws.length) ≤ 60 by omega)]
    rfl
theorem pl_mbsw (ws : List Int) : MbsW (plM ws) := ⟨fun j => by
  obtain ⟨⟨h1, h2⟩, h3, h4⟩ := right_parts (pl_right ws)
  by_cases hj : j < (plM ws).length
  · have hw := (mbOk_wt _ _ h3).1 j hj
    refine ⟨?_, by omega, by omega⟩
    unfold plM at *
    split at hj
    · next h =>
      rw [if_pos h] at *
      obtain rfl : j = 0 := by simpa using hj
      exact ⟨by decide, by decide⟩
    · next h =>
      rw [if_neg h] at *
      rw [plW_len] at *
      rw [plW_at _ _ _ hj]
      dsimp only
      omega
  · have : mbAt (plM ws) j = ⟨0, 0, 0⟩ := by unfold mbAt; simp [List.getD, List.getElem?_eq_none (show (plM ws).length ≤ j by omega)]
    rw [this]
    exact ⟨⟨by decide, by decide⟩, by decide, by decide⟩⟩
/-- The coefficients of a poll. -/
def cfZ (cs : List Int) (k : Nat) : Int := if cs.length = 0 then 3 + 2 * k else wrap64 (ptAt cs (k % cs.length) + k) % 1152921504606845789
def cfTo (cs : List Int) : Nat → List Int
  | 0 => []
  | k + 1 => cfTo cs k ++ [cfZ cs k]
theorem cfTo_len (cs : List Int) : ∀ k, (cfTo cs k).length = k
  | 0 => rfl
  | k + 1 => by rw [cfTo, List.length_append, cfTo_len cs k]; rfl
theorem cfTo_at (cs : List Int) : ∀ k j, j < k → ptAt (cfTo cs k) j = cfZ cs j
  | k + 1, j, h => by
    rw [cfTo, ptAt_append, cfTo_len]
    by_cases e : j < k
    · rw [if_pos e, cfTo_at cs k j e]
    · obtain rfl : j = k := by omega
      rw [if_neg e, if_pos rfl]
theorem cfZ_bd (cs : List Int) (k : Nat) (h : k ≤ 1000) : 0 ≤ cfZ cs k ∧ cfZ cs k < 1152921504606845789 := by
  unfold cfZ
  split
  · omega
  · exact emod_self_lt _ _ (by decide)
def plN (ws : List Int) : Nat := nOf (plM ws)
def plD (ws : List Int) : Nat := ndOf (plM ws)
def plC (ws cs : List Int) : List Int := cfTo cs (plD ws)
def plK (ws cs : List Int) : List Int := cmTo (plC ws cs) (plC ws cs).length
def plR (ws : List Int) : List (List Int) := pointsOf (plM ws)
theorem pl_sum (ws : List Int) : (∀ k, k ≤ (plR ws).length → gridTo (plR ws) k ≤ 1000000) ∧ gridN (plR ws) = plN ws ∧ 1 ≤ plN ws ∧ plN ws ≤ 60 ∧ needZ (plN ws) = plD ws ∧ 1 ≤ plD ws ∧ plD ws ≤ plN ws := by
  obtain ⟨s1, s2, s3, s4, s5, s6, s7, s8⟩ := right_sum (pl_right ws)
  exact ⟨fun k hk => s1 k (by unfold plR at hk; rw [pointsOf_len] at hk; exact hk), s2, s3, s4, s5, s6, s7⟩
theorem plC_len (ws cs : List Int) : (plC ws cs).length = plD ws := cfTo_len _ _
theorem plK_len (ws cs : List Int) : (plK ws cs).length = plD ws := by unfold plK; rw [cmTo_len, plC_len]
theorem plC_bd (ws cs : List Int) : ∀ j, 0 ≤ ptAt (plC ws cs) j ∧ ptAt (plC ws cs) j < 1152921504606845789 := fun j => by
  obtain ⟨_, _, h3, h4, _, h6, h7⟩ := pl_sum ws
  by_cases hj : j < plD ws
  · unfold plC
    rw [cfTo_at _ _ _ hj]
    exact cfZ_bd cs j (by omega)
  · have : ptAt (plC ws cs) j = 0 := by unfold ptAt; simp [List.getD, List.getElem?_eq_none (show (plC ws cs).length ≤ j by rw [plC_len]; omega)]
    rw [this]
    exact ⟨by decide, by decide⟩
theorem pl_keys (ws cs : List Int) : rightKB (plR ws) (plK ws cs) = true :=
  right_keys (pl_right ws) (plK_len ws cs) (cmTo_mem _ (plC_bd ws cs) _)
/-- Coefficients, commitments and points of a poll in memory. -/
structure PlAt (W : World) (cv kv pv : Value) (ws cs : List Int) : Prop where
  cf : PtsAt W.heap.size W cv (plC ws cs)
  cm : PtsAt W.heap.size W kv (plK ws cs)
  gr : GridAt W pv (plR ws)
theorem PlAt.only {A B : World} {cv kv pv : Value} {ws cs : List Int} (h : PlAt A cv kv pv ws cs) (hO : Only (fun _ => False) A B) : PlAt B cv kv pv ws cs := ⟨h.cf.only hO, h.cm.only hO, h.gr.only hO⟩
/-- The shares of all points. -/
def shTo (C : List Int) : Nat → List (Int × Int)
  | 0 => []
  | k + 1 => shTo C k ++ [((k : Int) + 1, valZ C ((k : Int) + 1))]
theorem shTo_len (C : List Int) : ∀ k, (shTo C k).length = k
  | 0 => rfl
  | k + 1 => by rw [shTo, List.length_append, shTo_len C k]; rfl
theorem shTo_at (C : List Int) : ∀ k j, j < k → shAt (shTo C k) j = ((j : Int) + 1, valZ C ((j : Int) + 1))
  | k + 1, j, h => by
    unfold shAt
    rw [shTo, getD_snoc, shTo_len]
    by_cases e : j < k
    · rw [if_pos e]; exact shTo_at C k j e
    · obtain rfl : j = k := by omega
      rw [if_neg e, if_pos rfl]
end Go.Proofs.YtlhfgbkonmgahaaGreatDoor
