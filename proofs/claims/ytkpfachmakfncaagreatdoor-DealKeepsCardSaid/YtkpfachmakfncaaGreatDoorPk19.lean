/-
  strings.Join (as the kit's shelf walks it; this dump's copyCheck bears a refused branch, so it is not laid).
  The program's scalars of numbers (package equal): scalar.
  The program's proofs of equal logarithms: Verify.
  The program's proofs of equal logarithms: Verify, all of it.
  The program's proofs of equal logarithms: Prove.
  A proof that was made is accepted (plain).
  The program's complaints: Complain. The reference's Shared, Made.
  The program's judgements: Judge.
  The reference's proofs of equal logarithms: decimal, joined, Challenge, side.
  Numbers in decimal, negative ones too: strconv.Itoa, the reference's decimal.
  The reference's numbers in decimal (sortesref07), negative ones too.
  The program's complaint where there is no box.
-/
import Derived.Test.YtkpfachmakfncaaGreatDoorPk17
import Derived.Test.YtkpfachmakfncaaGreatDoorShelf
import Derived.Lib.JoinLaws
import Derived.Lib.Join
import Derived.Deep.OwnRows
import Derived.Test.YtkpfachmakfncaaGreatDoorPk02
import Derived.Test.YtkpfachmakfncaaGreatDoorPk13
import Derived.Test.YtkpfachmakfncaaGreatDoorPk15
namespace Go.Proofs.YtkpfachmakfncaaGreatDoor
open Go.RowKit

theorem bld_ofGrow {B b : Nat} {w : World} (h : Lib.BuilderAt 56 5 B b (.pointer (some ⟨b, 0, none⟩)) [] w) : BldAt B b [] w := .inr (Lib.BuilderAtF.of h)
theorem join_many_len (x0 : ByteArray) (r : List ByteArray) (sep : ByteArray) (k : Nat) (h : (Lib.join ((x0 :: r).map (·.data.toList)) sep.data.toList).length ≤ 1000000000) :
    (x0.data.toList ++ Lib.joinTail sep.data.toList ((r.map (·.data.toList)).take k)).length ≤ 1000000000 := by
  rw [List.map_cons, Lib.join_cons, List.length_append] at h
  have h2 := Lib.joinTail_take_le sep.data.toList (r.map (·.data.toList)) k
  rw [List.length_append]
  omega

set_option maxHeartbeats 4000000 in
set_option maxRecDepth 100000 in
/-- strings.Join of two texts at least. -/
theorem sjoin_many (bk o c : Nat) (xs : List ByteArray) (sep : ByteArray) (w : World)
    (hcells : ∀ (j : Nat) x, xs[j]? = some x → w.cell? ⟨bk, o + j, none⟩ = some (.string x))
    (hbk : bk < w.heap.size) (h2 : 2 ≤ xs.length) (hN : xs.length ≤ 1000000) (hcap : xs.length ≤ c)
    (hlen : (Lib.join (xs.map (·.data.toList)) sep.data.toList).length ≤ 1000000000) :
    Calls Tryz.prog 86 #[.slice (some ⟨bk, o, none⟩) xs.length c, .string sep] w fun e w' => e = .returned (.string ⟨(Lib.join (xs.map (·.data.toList)) sep.data.toList).toArray⟩) ∧ Below w.heap.size w w' := by
  have HC := Lib.hid hcells
  clear hcells
  obtain ⟨x0, r, hxs⟩ : ∃ x0 r, xs = x0 :: r := by
    cases xs with
    | nil => simp at h2
    | cons a t => exact ⟨a, t, rfl⟩
  have hjl : sep.size * (xs.length - 1) + Lib.lens (xs.map (·.data.toList)) ≤ 1000000000 := by
    have := Lib.join_length x0.data.toList (r.map (·.data.toList)) sep.data.toList
    rw [hxs] at hlen ⊢
    simp only [List.map_cons] at hlen ⊢
    rw [this, List.length_map] at hlen
    rw [Lib.size_eq, List.length_cons, Nat.add_sub_cancel]
    exact hlen
  have hmul : sep.size * (xs.length - 1) ≤ 1000000000 := by omega
  generalize hM : sep.size * (xs.length - 1) = M at hjl hmul
  have hcast : ((xs.length : Int) - 1) = ((xs.length - 1 : Nat) : Int) := by omega
  have hlt : sep.size < 9223372036854775807 / (xs.length - 1) := by
    have : sep.size + 1 ≤ 9223372036854775807 / (xs.length - 1) := by
      rw [Nat.le_div_iff_mul_le (by omega), Nat.add_mul, hM]
      omega
    omega
  have hdv : ¬ (9223372036854775807 / ((xs.length : Int) - 1) ≤ (sep.size : Int)) := by
    have e : (9223372036854775807 : Int) / ((xs.length - 1 : Nat) : Int) = ((9223372036854775807 / (xs.length - 1) : Nat) : Int) := IntWalk.up_div (x := 9223372036854775807) rfl rfl
    rw [hcast, e]
    generalize 9223372036854775807 / (xs.length - 1) = q at hlt
    omega
  have hprod : wrap64 ((sep.size : Int) * ((xs.length : Int) - 1)) = (M : Int) := by
    have e : (sep.size : Int) * ((xs.length - 1 : Nat) : Int) = ((sep.size * (xs.length - 1) : Nat) : Int) := IntWalk.up_mul rfl rfl
    rw [hcast, e, hM]
    exact IntWalk.wrap64_in _ ⟨by omega, by omega⟩
  have hM0 : sep.size = 0 → M = 0 := fun h => by rw [← hM, h, Nat.zero_mul]
  clear hlt hcast
  have hne0 : ((xs.length : Int) == 0) = false := beq_eq_false_iff_ne.2 (by omega)
  have hne1 : ((xs.length : Int) == 1) = false := beq_eq_false_iff_ne.2 (by omega)
  have Hxs := Lib.hid hxs
  have Hlen := Lib.hid (fun k => join_many_len x0 r sep k (hxs ▸ hlen))
  clear hxs hlen
  go_enter Tryz.func86, Tryz.ntmps86
  go_wp2_with fail
  all_goals (
    go_loop [5, 41] (fun n i => ∃ k : Nat, k ≤ xs.length ∧ i = .int .i64 k ∧ n = .int .i64 ((M + Lib.lens ((xs.map (·.data.toList)).take k) : Nat) : Int)) (fun _ i => xs.length - (intOf i).toNat)
    case atStart => exact ⟨0, Nat.zero_le _, rfl, by first | (simp [Lib.lens]; done) | (have := hM0 (by omega); simp [Lib.lens, this])⟩
    case round =>
      obtain ⟨k, hk, rfl, rfl⟩ := hrel
      by_cases hkn : k < xs.length
      · obtain ⟨x, hx⟩ : ∃ x, xs[k]? = some x := ⟨xs[k], List.getElem?_eq_getElem hkn⟩
        have hc := HC.out k x hx
        have hstep := Lib.lens_take_succ (xs.map (·.data.toList)) k x.data.toList (by simp [hx])
        have hbound : Lib.lens ((xs.map (·.data.toList)).take (k + 1)) ≤ Lib.lens (xs.map (·.data.toList)) := Lib.lens_take_le _ _
        rw [← Lib.size_eq] at hstep
        generalize hA1 : Lib.lens ((xs.map (·.data.toList)).take (k + 1)) = A1 at hstep hbound
        generalize Lib.lens ((xs.map (·.data.toList)).take k) = A0 at hstep
        have HA1 := Lib.hid hA1
        clear hA1
        go_wp2
        exact ⟨⟨k + 1, by omega, by go_num, by rw [HA1.out]; refine congrArg _ ?_; omega⟩, by simp [intOf]; omega⟩
      · have hke : k = xs.length := by omega
        subst hke
        have hall : (xs.map (·.data.toList)).take xs.length = xs.map (·.data.toList) := List.take_of_length_le (by simp)
        rw [hall]
        generalize hT : Lib.lens (xs.map (·.data.toList)) = T at hjl
        have HT := Lib.hid hT
        clear hT hall
        go_wp2_with fail
        have hMT : ((M : Int) + (T : Int)) = ((M + T : Nat) : Int) := by omega
        rw [hMT]
        refine (Tryz.Builder_Grow_fresh w.heap.size w.heap.size (M + T) _ (Nat.le_refl _) (heap_alloc_new w _) (by simp) (by omega)).mono ?_
        rintro e w1 ⟨rfl, h1, hb1⟩
        have hb1' : Below w.heap.size w w1 := ((Below.refl w.heap.size w).alloc (Nat.le_refl _) _).trans hb1
        have hx0 : xs[0]? = some x0 := by rw [Hxs.out]; rfl
        have hc0 : w1.cell? ⟨bk, o, none⟩ = some (.string x0) := by
          rw [hb1'.cell (p := ⟨bk, o, none⟩) hbk]
          exact HC.out 0 x0 hx0
        have H1 := Lib.hid (bld_ofGrow h1)
        have Hb1 := Lib.hid hb1'
        have hBw1 : w.heap.size ≤ w1.heap.size := hb1'.size
        clear h1 hb1 hb1' hMT
        have Hwhole := Lib.hid (show Lib.join (xs.map (·.data.toList)) sep.data.toList = x0.data.toList ++ Lib.joinTail sep.data.toList (r.map (·.data.toList)) by
          rw [Hxs.out, List.map_cons, Lib.join_cons])
        go_wp2_with fail
        refine (bwrite_any w.heap.size w.heap.size [] x0 w1 H1.out (by have := Hlen.out 0; rw [List.length_append, ← Lib.size_eq] at this; show 0 + _ ≤ _; omega) hBw1).mono ?_
        rintro e w2 ⟨rfl, hp2⟩
        have H2 := Lib.hid (show BldAt w.heap.size w.heap.size (x0.data.toList ++ Lib.joinTail sep.data.toList ((r.map (·.data.toList)).take 0)) w2 by
          simpa [Lib.joinTail] using hp2.is)
        have Hb2 := Lib.hid (Hb1.out.trans hp2.below)
        clear hp2
        have hrl : r.length = xs.length - 1 := by rw [Hxs.out]; simp
        go_wp2_with fail
        go_loopw [65] (fun i wr => ∃ k : Nat, k ≤ r.length ∧ i = .int .i64 k ∧ Hid (BldAt w.heap.size w.heap.size (x0.data.toList ++ Lib.joinTail sep.data.toList ((r.map (·.data.toList)).take k)) wr) ∧ Hid (Below w.heap.size w wr)) (fun i _ => r.length - (intOf i).toNat)
        case atStart => exact ⟨0, Nat.zero_le _, rfl, H2, Hb2⟩
        case round =>
          obtain ⟨k, hk', rfl, HB, HW⟩ := hrel
          by_cases hkr : k < r.length
          · obtain ⟨y, hy⟩ : ∃ y, r[k]? = some y := ⟨r[k], List.getElem?_eq_getElem hkr⟩
            have hxy : xs[k + 1]? = some y := by rw [Hxs.out]; simpa using hy
            have hcy : wr.cell? ⟨bk, o + 1 + k, none⟩ = some (.string y) := by
              rw [HW.out.cell (p := ⟨bk, o + 1 + k, none⟩) hbk, show o + 1 + k = o + (k + 1) by omega]
              exact HC.out (k + 1) y hxy
            have hBw : w.heap.size ≤ wr.heap.size := HW.out.size
            have hnext : x0.data.toList ++ Lib.joinTail sep.data.toList ((r.map (·.data.toList)).take k) ++ sep.data.toList ++ y.data.toList = x0.data.toList ++ Lib.joinTail sep.data.toList ((r.map (·.data.toList)).take (k + 1)) := by
              rw [Lib.joinTail_take_succ sep.data.toList (r.map (·.data.toList)) k y.data.toList (by simp [hy]), List.append_assoc, List.append_assoc]
              simp
            have hl1 := Hlen.out (k + 1)
            rw [← hnext] at hl1
            simp only [List.length_append, ← Lib.size_eq] at hl1
            have Hn := Lib.hid hnext
            have Hl1 := Lib.hid (show (x0.data.toList ++ Lib.joinTail sep.data.toList ((r.map (·.data.toList)).take k)).length + sep.size + y.size ≤ 1000000000 by simp only [List.length_append, ← Lib.size_eq]; omega)
            clear hnext hy hxy hl1
            go_wp2_with fail
            refine (bwrite_any w.heap.size w.heap.size _ sep wr HB.out (by have := Hl1.out; omega) hBw).mono ?_
            rintro e w3 ⟨rfl, hp3⟩
            have hBw3 : w.heap.size ≤ w3.heap.size := Nat.le_trans hBw hp3.below.size
            have H3 := Lib.hid hp3
            clear hp3
            go_wp2_with fail
            refine (bwrite_any w.heap.size w.heap.size _ y w3 H3.out.is (by rw [List.length_append, ← Lib.size_eq]; have := Hl1.out; omega) hBw3).mono ?_
            rintro e w4 ⟨rfl, hp4⟩
            have H4 := Lib.hid (show BldAt w.heap.size w.heap.size _ w4 from Hn.out ▸ hp4.is)
            have Hb4 := Lib.hid ((HW.out.trans H3.out.below).trans hp4.below)
            clear hp4
            go_wp2
            exact ⟨⟨k + 1, by omega, by go_num, H4, Hb4⟩, by simp [intOf]; omega⟩
          · have hke : k = r.length := by omega
            subst hke
            have hfull : (r.map (·.data.toList)).take r.length = r.map (·.data.toList) := List.take_of_length_le (by simp)
            have HB' := Lib.hid (show BldAt w.heap.size w.heap.size (Lib.join (xs.map (·.data.toList)) sep.data.toList) wr by
              rw [Hwhole.out, ← hfull]
              exact HB.out)
            have hBw : w.heap.size ≤ wr.heap.size := HW.out.size
            go_wp2_with fail
            refine (bstring_any w.heap.size w.heap.size _ wr HB'.out hBw).mono ?_
            rintro e w5 ⟨rfl, hb5⟩
            have Hb5 := Lib.hid (HW.out.trans hb5)
            clear hb5
            go_wp2
            go_ret
            exact ⟨rfl, Hb5.out⟩)
end Go.Proofs.YtkpfachmakfncaaGreatDoor

namespace Go.Proofs.YtkpfachmakfncaaGreatDoor
open Go.RowKit

/-- Numbers in decimal, with slashes between them. -/
def digsL (zs : List Int) : List ByteArray := zs.map fun z => decB z.toNat
def joinL (zs : List Int) : List UInt8 := Lib.join ((digsL zs).map (·.data.toList)) [47]
def joinN (zs : List Int) : ByteArray := ⟨(joinL zs).toArray⟩
/-- Numbers from 0 on, in a word. -/
def Nats (zs : List Int) : Prop := ∀ z ∈ zs, 0 ≤ z ∧ z ≤ 9223372036854775807
theorem Nats.at {zs : List Int} (h : Nats zs) {k : Nat} (hk : k < zs.length) : 0 ≤ ptAt zs k ∧ ptAt zs k ≤ 9223372036854775807 := by
  have : ptAt zs k = zs[k] := by simp [ptAt, List.getD, hk]
  rw [this]
  exact h _ (List.getElem_mem hk)
theorem digsL_lens : ∀ (zs : List Int), Nats zs → Lib.lens ((digsL zs).map (·.data.toList)) ≤ 21 * zs.length
  | [], _ => by simp [digsL, Lib.lens]
  | z :: zs, h => by
    have ih := digsL_lens zs (fun x hx => h x (List.mem_cons_of_mem _ hx))
    obtain ⟨h0, h1⟩ := h z (List.mem_cons_self)
    have := decB_size (n := z.toNat) (by omega)
    have e : Lib.lens ((digsL (z :: zs)).map (·.data.toList)) = (decB z.toNat).size + Lib.lens ((digsL zs).map (·.data.toList)) := by
      simp [digsL, Lib.lens]
    rw [e, List.length_cons]
    omega
theorem joinL_len (zs : List Int) (h : Nats zs) : (joinL zs).length ≤ 22 * zs.length := by
  have hl := digsL_lens zs h
  cases zs with
  | nil => exact Nat.le_of_eq rfl
  | cons z zs =>
    unfold joinL
    have e : (digsL (z :: zs)).map (·.data.toList) = (decB z.toNat).data.toList :: (digsL zs).map (·.data.toList) := rfl
    rw [e, Lib.join_length, ← e]
    have : ((digsL zs).map (·.data.toList)).length = zs.length := by simp [digsL]
    rw [this]
    show 1 * _ + _ ≤ _
    simp only [List.length_cons] at *
    omega
theorem joinN_size (zs : List Int) (h : Nats zs) : (joinN zs).size ≤ 22 * zs.length := joinL_len zs h
/-- The scalar of a word and numbers. -/
def wscZ (word : ByteArray) (zs : List Int) : Int := scalarZ (word ++ (⟨#[47]⟩ : ByteArray) ++ joinN zs)
theorem Tryz.infoStr : (Tryz.prog.info? 9).map (fun i => (i.zero, i.size, i.bytes)) = some (some (.string ⟨#[]⟩), 1, 16) := by kernel_rfl
/-- What the block of texts holds. -/
def txtAt (zs : List Int) (k : Nat) (j : Nat) : Value := if j < k then .string (decB (ptAt zs j).toNat) else .string ⟨#[]⟩
structure TxsAt (w wr : World) (zs : List Int) (k : Nat) : Prop where
  row : wr.rowIs w.heap.size 9 zs.length (txtAt zs k)
  only : Only (fun _ => False) w wr
theorem TxsAt.next {w wr wr' : World} {zs : List Int} {k : Nat} (h : TxsAt w wr zs k) (hO : Only (fun _ => False) wr wr') : TxsAt w (wr'.setCell ⟨w.heap.size, k, none⟩ (.string (decB (ptAt zs k).toNat))) zs (k + 1) := by
  have hr := h.row.of_block (hO.block w.heap.size h.row.lt (fun e => e))
  refine ⟨(hr.set k _).congr (fun j _ => ?_), (h.only.trans hO).setCell (.inr (Nat.le_refl _)) _⟩
  unfold txtAt
  by_cases e : j = k
  · subst e; rw [if_pos rfl, if_pos (by omega)]
  · rw [if_neg e]
    by_cases e2 : j < k
    · rw [if_pos e2, if_pos (by omega)]
    · rw [if_neg e2, if_neg (by omega)]
set_option maxHeartbeats 2000000 in
set_option maxRecDepth 100000 in
theorem escalar_any (word : ByteArray) (a : Option Addr) (c : Nat) (zs : List Int) (w : World) (hI : PtsAt w.heap.size w (.slice a zs.length c) zs) (hz : Nats zs) (hlen : zs.length ≤ 100) (hne : 2 ≤ zs.length) (hw : word.size ≤ 100) (hG : Glob w) :
    Calls Tryz.prog 63 #[.string word, .slice a zs.length c] w fun e w' => e = .returned (.int .i64 (wscZ word zs)) ∧ Only (fun _ => False) w w' := by
  obtain ⟨j0, hj0, hy0, hy1, hy2⟩ := info_parts Tryz.infoStr
  have HI := Lib.hid hI
  have HG := Lib.hid hG
  have HZ := Lib.hid hz
  have hjs := joinN_size zs hz
  have hJL := joinL_len zs hz
  have HSC := Lib.hid (fun w hG => pscalar_any (word ++ (⟨#[47]⟩ : ByteArray) ++ joinN zs) w (by rw [ByteArray.size_append, ByteArray.size_append]; show _ + 1 + _ ≤ _; omega) hG)
  have HW := Lib.hid (show wscZ word zs = scalarZ (word ++ (⟨#[47]⟩ : ByteArray) ++ joinN zs) from rfl)
  have HJN := Lib.hid (show (⟨(Lib.join ((digsL zs).map (·.data.toList)) (⟨#[47]⟩ : ByteArray).data.toList).toArray⟩ : ByteArray) = joinN zs from rfl)
  have HJL := Lib.hid (show (Lib.join ((digsL zs).map (·.data.toList)) (⟨#[47]⟩ : ByteArray).data.toList).length ≤ 1000000000 by
    show (joinL zs).length ≤ _; omega)
  have HDL := Lib.hid (show (digsL zs).length = zs.length by simp [digsL])
  have HJS := Lib.hid hjs
  clear hI hz hjs hJL
  have hmk := run_make_row (P := Tryz.prog) 23 9 j0 _ Tryz.underlying23 hj0 hy0 hy1 rfl .i64 .i64 zs.length (by rw [hy2]; omega) (by omega) w
  have HT0 := Lib.hid (show TxsAt w (w.alloc (.cells (madeCells #[.string ⟨#[]⟩] zs.length) 9)) zs 0 from
    ⟨(World.rowIs_made w _ _ _).congr (fun j _ => by unfold txtAt; rw [if_neg (by omega)]), (Only.refl _ w).alloc _⟩)
  go_enter Tryz.func63, Tryz.ntmps63
  go_wp2_with fail
  clear hmk
  go_loopw [13] (fun vi wr => ∃ k : Nat, vi = .int .i64 k ∧ k ≤ zs.length ∧ TxsAt w wr zs k) (fun vi _ => zs.length - (intOf vi).toNat)
  case atStart => exact ⟨0, rfl, Nat.zero_le _, HT0.out⟩
  case round =>
    clear HT0
    obtain ⟨k, rfl, hk, hT⟩ := hrel
    have HT := Lib.hid hT
    clear hT
    by_cases hlt : k < zs.length
    · obtain ⟨b, off, rfl, hb, hc1, hc2, hcell⟩ := (HI.out.only HT.out.only).cellAt hlt
      obtain ⟨z0, z1⟩ := HZ.out.at hlt
      have HN := Lib.hid (fun wr' hO => HT.out.next (wr' := wr') hO)
      have HIT := Lib.hid (fun w hG => itoa_any (ptAt zs k).toNat w (by omega) hG)
      obtain ⟨n, hn⟩ := Int.eq_ofNat_of_zero_le z0
      rw [hn] at hcell HIT HN
      rw [Int.toNat_natCast] at HIT HN
      clear hn z0 z1
      go_wp2_with fail
      refine (HIT.out _ (HG.out.only HT.out.only)).mono ?_
      rintro e w2 ⟨rfl, hO2⟩
      have HT2 := Lib.hid (HN.out w2 hO2)
      have hrw := HT.out.row.of_block (hO2.block w.heap.size HT.out.row.lt (fun e => e))
      have p0 := hrw.cell hlt
      have pf := hrw.frozen k
      have l0 := hrw.lt
      clear hO2 hcell HIT HN hrw
      go_wp2
      case roundEnd => exact ⟨⟨k + 1, by go_num, by omega, HT2.out⟩, by simp [intOf]; omega⟩
    · obtain rfl : k = zs.length := by omega
      have hcells : ∀ (j : Nat) x, (digsL zs)[j]? = some x → wr.cell? ⟨w.heap.size, 0 + j, none⟩ = some (.string x) := fun j x hx => by
        unfold digsL at hx
        rw [List.getElem?_map, Option.map_eq_some_iff] at hx
        obtain ⟨z, hz, rfl⟩ := hx
        obtain ⟨hj, rfl⟩ := List.getElem?_eq_some_iff.1 hz
        have := HT.out.row.cell (i := j) hj
        rw [Nat.zero_add, this]
        unfold txtAt
        rw [if_pos hj]
        simp [ptAt, List.getD, hj]
      have hsj := sjoin_many w.heap.size 0 zs.length (digsL zs) ⟨#[47]⟩ wr hcells HT.out.row.lt (by rw [HDL.out]; exact hne) (by rw [HDL.out]; omega) (by rw [HDL.out]; omega) HJL.out
      rw [HDL.out, HJN.out] at hsj
      have HSJ := Lib.hid hsj
      clear hsj hcells
      obtain ⟨J, hJ⟩ : ∃ J, joinN zs = J := ⟨_, rfl⟩
      have HS2 := Lib.hid HSC.out
      have HJS2 := Lib.hid HJS.out
      have HW2 := Lib.hid HW.out
      rw [hJ] at HSJ HS2 HJS2 HW2
      clear HSC HJS HW HJN HJL HDL hJ
      go_wp2_with fail
      refine HSJ.out.mono ?_
      rintro e w2 ⟨rfl, hb2⟩
      have HO2 := Lib.hid (HT.out.only.trans (Only.ofBelow hb2 _))
      clear hb2
      have js := HJS2.out
      have ws : (word ++ (⟨#[47]⟩ : ByteArray)).size ≤ 101 := by rw [ByteArray.size_append]; show _ + 1 ≤ _; omega
      go_wp2_with fail
      refine (HS2.out _ (HG.out.only HO2.out)).mono ?_
      rintro e w3 ⟨rfl, hO3⟩
      have HO3 := Lib.hid (HO2.out.trans hO3)
      clear hO3
      go_wp2
      go_ret
      exact ⟨by rw [HW2.out]; rfl, HO3.out⟩
end Go.Proofs.YtkpfachmakfncaaGreatDoor

namespace Go.Proofs.YtkpfachmakfncaaGreatDoor
open Go.RowKit

/-- A side of the check. -/
def sideZ (base pw c z : Int) : Int := powM base z 2305843009213691579 * powM pw (1152921504606845789 - c) 2305843009213691579 % 2305843009213691579
def wEq : ByteArray := ⟨#[101, 113, 117, 97, 108]⟩
def wNo : ByteArray := ⟨#[110, 111, 110, 99, 101]⟩
/-- The numbers that a proof is over. -/
def vNums (g a h b c z : Int) : List Int := [g, a, h, b, sideZ g a c z, sideZ h b c z]
/-- The challenge fits, and its parts are in the reach. -/
def rngB (c z : Int) : Bool := !(decide (c < 0) || decide (1152921504606845788 < c) || decide (z < 0) || decide (1152921504606845788 < z))
/-- Is a proof accepted? -/
def verB (g a h b c z : Int) : Bool := (memB g && memB a && memB h && memB b) && (rngB c z && (c == wscZ wEq (vNums g a h b c z)))
theorem memB_bd {a : Int} (h : memB a = true) : 1 ≤ a ∧ a < 2305843009213691579 := by
  unfold memB gP at h
  simp only [Bool.and_eq_true, decide_eq_true_eq] at h
  exact h.1
theorem rngB_bd {c z : Int} (h : rngB c z = true) : (0 ≤ c ∧ c ≤ 1152921504606845788) ∧ (0 ≤ z ∧ z ≤ 1152921504606845788) := by
  unfold rngB at h
  simp only [Bool.not_eq_true', Bool.or_eq_false_iff, decide_eq_false_iff_not] at h
  omega
theorem sideZ_bd (base pw c z : Int) : 0 ≤ sideZ base pw c z ∧ sideZ base pw c z < 2305843009213691579 := emod_self_lt _ _ (by decide)
theorem vNums_nats {g a h b : Int} (c z : Int) (hg : memB g = true) (ha : memB a = true) (hh : memB h = true) (hb : memB b = true) : Nats (vNums g a h b c z) := by
  have := memB_bd hg
  have := memB_bd ha
  have := memB_bd hh
  have := memB_bd hb
  have := sideZ_bd g a c z
  have := sideZ_bd h b c z
  intro x hx
  simp only [vNums, List.mem_cons, List.not_mem_nil, or_false] at hx
  rcases hx with rfl | rfl | rfl | rfl | rfl | rfl <;> omega

set_option maxRecDepth 100000 in
set_option maxHeartbeats 1000000 in
theorem side_any (b : Nat) (base pw c z : Int) (w : World) (e0 : w.cell? ⟨b, 0, none⟩ = some (.int .i64 c)) (e1 : w.cell? ⟨b, 1, none⟩ = some (.int .i64 z)) (hc : 0 ≤ c ∧ c ≤ 1152921504606845788) (hz : 0 ≤ z ∧ z ≤ 1152921504606845788) :
    Calls Tryz.prog 62 #[.int .i64 base, .int .i64 pw, .pointer (some ⟨b, 0, none⟩)] w fun e w' => e = .returned (.int .i64 (sideZ base pw c z)) ∧ Only (fun _ => False) w w' := by
  have HP1 := Lib.hid (fun w => pow_any base z 2305843009213691579 w (by decide) (by decide) hz.1 (by omega))
  have HP2 := Lib.hid (fun w => pow_any pw (1152921504606845789 - c) 2305843009213691579 w (by decide) (by decide) (by omega) (by omega))
  have HV := Lib.hid (show sideZ base pw c z = powM base z 2305843009213691579 * powM pw (1152921504606845789 - c) 2305843009213691579 % 2305843009213691579 from rfl)
  have hs : wrap64 (1152921504606845789 - c) = 1152921504606845789 - c := by unfold wrap64; omega
  generalize powM base z 2305843009213691579 = p1 at *
  generalize powM pw (1152921504606845789 - c) 2305843009213691579 = p2 at *
  have HM := Lib.hid (fun w => mul_any p1 p2 2305843009213691579 w (by decide) (by decide))
  rw [← HV.out] at HM
  generalize sideZ base pw c z = S at *
  have y0 := fun (d : Nat) (os : Array Obj) => cell_regrown e0 d os
  have y1 := fun (d : Nat) (os : Array Obj) => cell_regrown e1 d os
  clear e0 e1
  go_enter Tryz.func62, Tryz.ntmps62
  go_wp2_with fail
  refine wp_region_quiet_below (by kernel_rfl) (by kernel_rfl) ?_
  repeat (go_big_quiet_step (fail))
  go_big_quiet_step ((go_at_call 39; exact Calls.regrown_of ((HP1.out _).mono fun _ _ h => ⟨h.1, by rw [h.2]; exact (Below.refl _ _).alloc (Nat.le_refl _) _⟩)))
  repeat (go_big_quiet_step (fail))
  go_big_quiet_step ((go_at_call 39; exact Calls.regrown_of ((HP2.out _).mono fun _ _ h => ⟨h.1, by rw [h.2]; exact (Below.refl _ _).alloc (Nat.le_refl _) _⟩)))
  go_big_quiet_step ((go_at_call 48; exact Calls.regrown_of ((HM.out _).mono fun _ _ h => ⟨h.1, by rw [← h.2]; exact Below.refl _ _⟩)))
  repeat (go_big_quiet_step (fail))
  refine wpQuiet_nil ?_
  intro w2 hw'
  obtain ⟨pq, hw''⟩ := hw'
  have HO := Lib.hid (Only.ofBelow (below_regrown w pq.d pq.os) (fun _ => False))
  rw [← hw''] at HO
  clear hw'' y0 y1
  go_wp2
  go_ret
  exact ⟨rfl, HO.out⟩

theorem Tryz.infoPf : (Tryz.prog.info? 43).map (·.size) = some 2 := by kernel_rfl
set_option maxRecDepth 100000 in
set_option maxHeartbeats 4000000 in
theorem verify_no1 (g a h b c z : Int) (w : World) (hm : (memB g && memB a && memB h && memB b) = false) :
    Calls Tryz.prog 42 #[.int .i64 g, .int .i64 a, .int .i64 h, .int .i64 b, .agg #[.int .i64 c, .int .i64 z]] w fun e w' => e = .returned (.bool false) ∧ Only (fun _ => False) w w' := by
  have HA := Lib.hid ((Only.refl (fun _ => False) w).alloc (.cells #[.int .i64 c, .int .i64 z] 43))
  have H1 := Lib.hid (fun w => member_is g _ w rfl)
  have H2 := Lib.hid (fun w => member_is a _ w rfl)
  have H3 := Lib.hid (fun w => member_is h _ w rfl)
  have H4 := Lib.hid (fun w => member_is b _ w rfl)
  generalize memB g = m1 at *
  generalize memB a = m2 at *
  generalize memB h = m3 at *
  generalize memB b = m4 at *
  go_enter Tryz.func42, Tryz.ntmps42
  go_wp2_with fail
  refine (H1.out _).mono ?_
  rintro e w1 ⟨rfl, hO1⟩
  have HO1 := Lib.hid (HA.out.trans hO1)
  clear hO1
  cases m1
  · go_wp2
    go_ret
    exact ⟨rfl, HO1.out⟩
  · go_wp2_with fail
    refine (H2.out _).mono ?_
    rintro e w2 ⟨rfl, hO2⟩
    have HO2 := Lib.hid (HO1.out.trans hO2)
    clear hO2
    cases m2
    · go_wp2
      go_ret
      exact ⟨rfl, HO2.out⟩
    · go_wp2_with fail
      refine (H3.out _).mono ?_
      rintro e w3 ⟨rfl, hO3⟩
      have HO3 := Lib.hid (HO2.out.trans hO3)
      clear hO3
      cases m3
      · go_wp2
        go_ret
        exact ⟨rfl, HO3.out⟩
      · go_wp2_with fail
        refine (H4.out _).mono ?_
        rintro e w4 ⟨rfl, hO4⟩
        have HO4 := Lib.hid (HO3.out.trans hO4)
        clear hO4
        cases m4
        · go_wp2
          go_ret
          exact ⟨rfl, HO4.out⟩
        · exact absurd hm (by decide)
set_option maxRecDepth 100000 in
set_option maxHeartbeats 4000000 in
theorem verify_no2 (g a h b c z : Int) (w : World) (hg : memB g = true) (ha : memB a = true) (hh : memB h = true) (hb : memB b = true) (hr : rngB c z = false) :
    Calls Tryz.prog 42 #[.int .i64 g, .int .i64 a, .int .i64 h, .int .i64 b, .agg #[.int .i64 c, .int .i64 z]] w fun e w' => e = .returned (.bool false) ∧ Only (fun _ => False) w w' := by
  have HA := Lib.hid ((Only.refl (fun _ => False) w).alloc (.cells #[.int .i64 c, .int .i64 z] 43))
  have HZ := Lib.hid (heap_alloc_last w (.cells #[.int .i64 c, .int .i64 z] 43))
  have H1 := Lib.hid (fun w => member_is g _ w hg)
  have H2 := Lib.hid (fun w => member_is a _ w ha)
  have H3 := Lib.hid (fun w => member_is h _ w hh)
  have H4 := Lib.hid (fun w => member_is b _ w hb)
  clear hg ha hh hb
  go_enter Tryz.func42, Tryz.ntmps42
  go_wp2_with fail
  refine (H1.out _).mono ?_
  rintro e w1 ⟨rfl, hO1⟩
  have HZ1 := Lib.hid (row_still hO1 HZ.out)
  have HO1 := Lib.hid (HA.out.trans hO1)
  clear hO1
  go_wp2_with fail
  refine (H2.out _).mono ?_
  rintro e w2 ⟨rfl, hO2⟩
  have HZ2 := Lib.hid (row_still hO2 HZ1.out)
  have HO2 := Lib.hid (HO1.out.trans hO2)
  clear hO2
  go_wp2_with fail
  refine (H3.out _).mono ?_
  rintro e w3 ⟨rfl, hO3⟩
  have HZ3 := Lib.hid (row_still hO3 HZ2.out)
  have HO3 := Lib.hid (HO2.out.trans hO3)
  clear hO3
  go_wp2_with fail
  refine (H4.out _).mono ?_
  rintro e w4 ⟨rfl, hO4⟩
  have HZ4 := Lib.hid (row_still hO4 HZ3.out)
  have HO4 := Lib.hid (HO3.out.trans hO4)
  clear hO4
  have e0 : _ = some (Value.int .i64 c) := cell_of_row _ _ 0 _ _ _ HZ4.out
  have e1 : _ = some (Value.int .i64 z) := cell_of_row _ _ 1 _ _ _ HZ4.out
  by_cases q1 : c < 0
  · go_wp2
    go_ret
    exact ⟨rfl, HO4.out⟩
  · by_cases q2 : 1152921504606845788 < c
    · go_wp2
      go_ret
      exact ⟨rfl, HO4.out⟩
    · by_cases q3 : z < 0
      · go_wp2
        go_ret
        exact ⟨rfl, HO4.out⟩
      · by_cases q4 : 1152921504606845788 < z
        · go_wp2
          go_ret
          exact ⟨rfl, HO4.out⟩
        · exact absurd hr (by unfold rngB; simp [q1, q2, q3, q4])
end Go.Proofs.YtkpfachmakfncaaGreatDoor

namespace Go.Proofs.YtkpfachmakfncaaGreatDoor
open Go.RowKit

set_option maxRecDepth 100000 in
set_option maxHeartbeats 4000000 in
theorem verify_yes (g a h b c z : Int) (w : World) (hg : memB g = true) (ha : memB a = true) (hh : memB h = true) (hb : memB b = true) (hr : rngB c z = true) (hG : Glob w) :
    Calls Tryz.prog 42 #[.int .i64 g, .int .i64 a, .int .i64 h, .int .i64 b, .agg #[.int .i64 c, .int .i64 z]] w fun e w' => e = .returned (.bool (c == wscZ wEq (vNums g a h b c z))) ∧ Only (fun _ => False) w w' := by
  have HG := Lib.hid hG
  have HA := Lib.hid ((Only.refl (fun _ => False) w).alloc (.cells #[.int .i64 c, .int .i64 z] 43))
  have HZ := Lib.hid (heap_alloc_last w (.cells #[.int .i64 c, .int .i64 z] 43))
  have H1 := Lib.hid (fun w => member_is g _ w hg)
  have H2 := Lib.hid (fun w => member_is a _ w ha)
  have H3 := Lib.hid (fun w => member_is h _ w hh)
  have H4 := Lib.hid (fun w => member_is b _ w hb)
  have HN := Lib.hid (vNums_nats c z hg ha hh hb)
  have HNE := Lib.hid (show vNums g a h b c z = [g, a, h, b, sideZ g a c z, sideZ h b c z] from rfl)
  obtain ⟨hc, hz⟩ := rngB_bd hr
  have HSD := Lib.hid (fun base pw w e0 e1 => side_any w.heap.size base pw c z w e0 e1 hc hz)
  have HS := Lib.hid (fun base pw B w e0 e1 => side_any B base pw c z w e0 e1 hc hz)
  have q1 : ¬ c < 0 := by omega
  have q2 : ¬ 1152921504606845788 < c := by omega
  have q3 : ¬ z < 0 := by omega
  have q4 : ¬ 1152921504606845788 < z := by omega
  clear hg ha hh hb hr hc hz hG HSD
  generalize vNums g a h b c z = ns at *
  go_enter Tryz.func42, Tryz.ntmps42
  go_wp2_with fail
  generalize hblk : w.heap.size = blk at *
  generalize w.alloc (.cells #[.int .i64 c, .int .i64 z] 43) = w0 at *
  refine (H1.out _).mono ?_
  rintro e w1 ⟨rfl, hO1⟩
  have HZ1 := Lib.hid (row_still hO1 HZ.out)
  have HO1 := Lib.hid (HA.out.trans hO1)
  clear hO1 HZ
  go_wp2_with fail
  refine (H2.out _).mono ?_
  rintro e w2 ⟨rfl, hO2⟩
  have HZ2 := Lib.hid (row_still hO2 HZ1.out)
  have HO2 := Lib.hid (HO1.out.trans hO2)
  clear hO2 HZ1 HO1
  go_wp2_with fail
  refine (H3.out _).mono ?_
  rintro e w3 ⟨rfl, hO3⟩
  have HZ3 := Lib.hid (row_still hO3 HZ2.out)
  have HO3 := Lib.hid (HO2.out.trans hO3)
  clear hO3 HZ2 HO2
  go_wp2_with fail
  refine (H4.out _).mono ?_
  rintro e w4 ⟨rfl, hO4⟩
  have HZ4 := Lib.hid (row_still hO4 HZ3.out)
  have HO4 := Lib.hid (HO3.out.trans hO4)
  clear hO4 HZ3 HO3 H1 H2 H3 H4 HA
  have e0 : _ = some (Value.int .i64 c) := cell_of_row _ _ 0 _ _ _ HZ4.out
  have e1 : _ = some (Value.int .i64 z) := cell_of_row _ _ 1 _ _ _ HZ4.out
  have HKS := Lib.hid (show ∀ W, Only (fun _ => False) w4 W → W.cell? ⟨blk, 0, none⟩ = some (.int .i64 c) ∧ W.cell? ⟨blk, 1, none⟩ = some (.int .i64 z) ∧ Only (fun _ => False) w4 W from fun W h => ⟨h.cell e0 id, h.cell e1 id, h⟩)
  have HSD := Lib.hid (show ∀ base pw W, (W.cell? ⟨blk, 0, none⟩ = some (.int .i64 c) ∧ W.cell? ⟨blk, 1, none⟩ = some (.int .i64 z) ∧ Only (fun _ => False) w4 W) →
      Calls Tryz.prog 62 #[.int .i64 base, .int .i64 pw, .pointer (some ⟨blk, 0, none⟩)] W (fun e wT => e = .returned (.int .i64 (sideZ base pw c z)) ∧ (wT.cell? ⟨blk, 0, none⟩ = some (.int .i64 c) ∧ wT.cell? ⟨blk, 1, none⟩ = some (.int .i64 z) ∧ Only (fun _ => False) w4 wT)) from fun base pw W h => (HS.out base pw blk W h.1 h.2.1).mono fun _ _ k => ⟨k.1, HKS.out _ (h.2.2.trans k.2)⟩)
  have HES := Lib.hid (show ∀ W, (W.cell? ⟨blk, 0, none⟩ = some (.int .i64 c) ∧ W.cell? ⟨blk, 1, none⟩ = some (.int .i64 z) ∧ Only (fun _ => False) w4 W) →
      Calls Tryz.prog 63 #[.string ⟨#[101, 113, 117, 97, 108]⟩, .slice (some ⟨W.heap.size, 0, none⟩) 6 6] (W.alloc (.cells #[.int .i64 g, .int .i64 a, .int .i64 h, .int .i64 b, .int .i64 (sideZ g a c z), .int .i64 (sideZ h b c z)] 3)) (fun e wT => e = .returned (.int .i64 (wscZ wEq ns)) ∧ (wT.cell? ⟨blk, 0, none⟩ = some (.int .i64 c) ∧ wT.cell? ⟨blk, 1, none⟩ = some (.int .i64 z) ∧ Only (fun _ => False) w4 wT)) from fun W hS => by
    have hP := pts_lit W [g, a, h, b, sideZ g a c z, sideZ h b c z] 3 (by show 6 ≤ _; decide)
    have hA5 := (HO4.out.trans hS.2.2).alloc (.cells (irow [g, a, h, b, sideZ g a c z, sideZ h b c z]).toArray 3)
    have := escalar_any wEq _ _ _ _ hP (by rw [← HNE.out]; exact HN.out) (by show 6 ≤ _; decide) (by show 2 ≤ 6; decide) (by decide) (HG.out.only hA5)
    rw [HNE.out]
    exact Calls.mono this fun _ _ k => ⟨k.1, HKS.out _ ((hS.2.2.alloc _).trans k.2)⟩)
  clear HS HN HNE HZ4
  go_wp2_with fail
  obtain ⟨m, hm⟩ : ∃ m, wscZ wEq ns = m := ⟨_, rfl⟩
  rw [hm] at HES
  have HMM := Lib.hid hm
  clear hm
  go_region_held3 (fun w' => w'.cell? ⟨blk, 0, none⟩ = some (.int .i64 c) ∧ w'.cell? ⟨blk, 1, none⟩ = some (.int .i64 z) ∧ Only (fun _ => False) w4 w')
    (first
      | with_reducible exact HKS.out _ ((Only.refl _ w4).drew)
      | with_reducible exact hS1
      | with_reducible exact hS2
      | exact HKS.out _ (hS1.2.2.alloc _))
    (first
      | (go_at_call 62; with_reducible refine (HSD.out _ _ _ (by assumption)).mono ?_; rintro e wK ⟨rfl, hS1⟩)
      | (go_at_call 63; with_reducible refine (HES.out _ hS1).mono ?_; rintro e wN ⟨rfl, hS2⟩))
  clear HES HSD HKS
  go_wp2_with fail
  go_ret
  exact ⟨by rw [HMM.out]; rfl, HO4.out.trans hS2.2.2⟩
theorem verify_any (g a h b c z : Int) (w : World) (hG : Glob w) :
    Calls Tryz.prog 42 #[.int .i64 g, .int .i64 a, .int .i64 h, .int .i64 b, .agg #[.int .i64 c, .int .i64 z]] w fun e w' => e = .returned (.bool (verB g a h b c z)) ∧ Only (fun _ => False) w w' := by
  by_cases hm : (memB g && memB a && memB h && memB b) = true
  · have hm2 := hm
    simp only [Bool.and_eq_true] at hm2
    obtain ⟨⟨⟨hg, ha⟩, hh⟩, hb⟩ := hm2
    cases hr : rngB c z
    · have e : verB g a h b c z = false := by unfold verB; rw [hr]; simp
      rw [e]
      exact verify_no2 g a h b c z w hg ha hh hb hr
    · have e : verB g a h b c z = (c == wscZ wEq (vNums g a h b c z)) := by unfold verB; rw [hr, hm]; simp
      rw [e]
      exact verify_yes g a h b c z w hg ha hh hb hr hG
  · have hm' : (memB g && memB a && memB h && memB b) = false := by simpa using hm
    have e : verB g a h b c z = false := by unfold verB; rw [hm']; rfl
    rw [e]
    exact verify_no1 g a h b c z w hm'
end Go.Proofs.YtkpfachmakfncaaGreatDoor

namespace Go.Proofs.YtkpfachmakfncaaGreatDoor
open Go.RowKit

theorem pf_one (x y : Int) : (#[Value.int .i64 x, .int .i64 y] : Array Value).all (·.oneCell') = true := by simp [Value.oneCell']
def pfK (x g h : Int) : Int := wscZ wNo [x, g, h]
def pfNums (x g h : Int) : List Int := [g, powM g x 2305843009213691579, h, powM h x 2305843009213691579, powM g (pfK x g h) 2305843009213691579, powM h (pfK x g h) 2305843009213691579]
def pfC (x g h : Int) : Int := wscZ wEq (pfNums x g h)
def pfZ (x g h : Int) : Int := (pfK x g h + pfC x g h * x % 1152921504606845789) % 1152921504606845789
theorem wscZ_bd (word : ByteArray) (zs : List Int) : 0 ≤ wscZ word zs ∧ wscZ word zs < 1152921504606845789 := scalarZ_bd _
theorem pfA_nats {x g h : Int} (hx : 0 ≤ x ∧ x < 1152921504606845789) (hg : memB g = true) (hh : memB h = true) : Nats [x, g, h] := by
  have := memB_bd hg
  have := memB_bd hh
  intro y hy
  simp only [List.mem_cons, List.not_mem_nil, or_false] at hy
  rcases hy with rfl | rfl | rfl <;> omega
theorem pfB_nats {x g h : Int} (hg : memB g = true) (hh : memB h = true) : Nats (pfNums x g h) := by
  have := memB_bd hg
  have := memB_bd hh
  have := powM_bd g x 2305843009213691579 (by decide)
  have := powM_bd h x 2305843009213691579 (by decide)
  have := powM_bd g (pfK x g h) 2305843009213691579 (by decide)
  have := powM_bd h (pfK x g h) 2305843009213691579 (by decide)
  intro y hy
  simp only [pfNums, List.mem_cons, List.not_mem_nil, or_false] at hy
  rcases hy with rfl | rfl | rfl | rfl | rfl | rfl <;> omega

set_option maxRecDepth 100000 in
set_option maxHeartbeats 1000000 in
theorem powers2_any (b7 b8 : Nat) (base x k : Int) (w : World) (e0 : w.cell? ⟨b7, 0, none⟩ = some (.int .i64 x)) (e1 : w.cell? ⟨b8, 0, none⟩ = some (.int .i64 k)) (hx : 0 ≤ x ∧ x < 1152921504606845789) (hk : 0 ≤ k ∧ k < 1152921504606845789) :
    Calls Tryz.prog 67 #[.int .i64 base, .pointer (some ⟨b7, 0, none⟩), .pointer (some ⟨b8, 0, none⟩)] w fun e w' => e = .returned (.tuple #[.int .i64 (powM base x 2305843009213691579), .int .i64 (powM base k 2305843009213691579)]) ∧ Only (fun _ => False) w w' := by
  have HP1 := Lib.hid (fun w => pow_any base x 2305843009213691579 w (by decide) (by decide) hx.1 (by omega))
  have HP2 := Lib.hid (fun w => pow_any base k 2305843009213691579 w (by decide) (by decide) hk.1 (by omega))
  generalize powM base x 2305843009213691579 = p1 at *
  generalize powM base k 2305843009213691579 = p2 at *
  have y0 := fun (d : Nat) (os : Array Obj) => cell_regrown e0 d os
  have y1 := fun (d : Nat) (os : Array Obj) => cell_regrown e1 d os
  clear e0 e1
  go_enter Tryz.func67, Tryz.ntmps67
  go_wp2_with fail
  refine wp_region_quiet_below (by kernel_rfl) (by kernel_rfl) ?_
  repeat (go_big_quiet_step (fail))
  go_big_quiet_step ((go_at_call 39; exact Calls.regrown_of ((HP1.out _).mono fun _ _ h => ⟨h.1, by rw [h.2]; exact (Below.refl _ _).alloc (Nat.le_refl _) _⟩)))
  repeat (go_big_quiet_step (fail))
  go_big_quiet_step ((go_at_call 39; exact Calls.regrown_of ((HP2.out _).mono fun _ _ h => ⟨h.1, by rw [h.2]; exact (Below.refl _ _).alloc (Nat.le_refl _) _⟩)))
  repeat (go_big_quiet_step (fail))
  refine wpQuiet_nil ?_
  intro w2 hw'
  obtain ⟨pq, hw''⟩ := hw'
  have HO := Lib.hid (Only.ofBelow (below_regrown w pq.d pq.os) (fun _ => False))
  rw [← hw''] at HO
  clear hw'' y0 y1
  go_wp2
  go_ret2
  exact ⟨rfl, HO.out⟩

set_option maxRecDepth 100000 in
set_option maxHeartbeats 4000000 in
theorem prove_yes (secret g h : Int) (w : World) (hg : memB g = true) (hh : memB h = true) (hG : Glob w) :
    Calls Tryz.prog 45 #[.int .i64 secret, .int .i64 g, .int .i64 h] w fun e w' => e = .returned (.agg #[.int .i64 (pfC (secret % 1152921504606845789) g h), .int .i64 (pfZ (secret % 1152921504606845789) g h)]) ∧ Only (fun _ => False) w w' := by
  have HG := Lib.hid hG
  have HA := Lib.hid ((Only.refl (fun _ => False) w).alloc (.cells #[.int .i64 0, .int .i64 0] 43))
  have HZ := Lib.hid (heap_alloc_last w (.cells #[.int .i64 0, .int .i64 0] 43))
  have H1 := Lib.hid (fun w => member_is g _ w hg)
  have H2 := Lib.hid (fun w => member_is h _ w hh)
  have hx := emod_self_lt secret 1152921504606845789 (by decide)
  have HADD := Lib.hid (fun w => add_any secret 0 1152921504606845789 w (by decide) (by decide))
  rw [Int.add_zero] at HADD
  generalize secret % 1152921504606845789 = x at *
  have hk := wscZ_bd wNo [x, g, h]
  have HNA := Lib.hid (pfA_nats hx hg hh)
  have HNB := Lib.hid (pfB_nats (x := x) hg hh)
  have HKE := Lib.hid (show pfK x g h = wscZ wNo [x, g, h] from rfl)
  have HCE := Lib.hid (show pfC x g h = wscZ wEq (pfNums x g h) from rfl)
  have HZE := Lib.hid (show pfZ x g h = (pfK x g h + pfC x g h * x % 1152921504606845789) % 1152921504606845789 from rfl)
  have HNE := Lib.hid (show pfNums x g h = [g, powM g x 2305843009213691579, h, powM h x 2305843009213691579, powM g (pfK x g h) 2305843009213691579, powM h (pfK x g h) 2305843009213691579] from rfl)
  rw [← HKE.out] at hk
  have HPW := Lib.hid (fun b7 b8 base w e0 e1 => powers2_any b7 b8 base x (pfK x g h) w e0 e1 hx hk)
  have HSA := Lib.hid (show ∀ W, Only (fun _ => False) w W → Calls Tryz.prog 63 #[.string ⟨#[110, 111, 110, 99, 101]⟩, .slice (some ⟨W.heap.size, 0, none⟩) 3 3] (W.alloc (.cells #[.int .i64 x, .int .i64 g, .int .i64 h] 3)) (fun e wT => e = .returned (.int .i64 (pfK x g h)) ∧ Only (fun _ => False) (W.alloc (.cells #[.int .i64 x, .int .i64 g, .int .i64 h] 3)) wT) from fun W hW => by
    have hP := pts_lit W [x, g, h] 3 (by show 3 ≤ _; decide)
    exact escalar_any wNo _ _ _ _ hP HNA.out (by show 3 ≤ _; decide) (by show 2 ≤ 3; decide) (by decide) (HG.out.only (hW.alloc _)))
  have HSB := Lib.hid (show ∀ W, Only (fun _ => False) w W → Calls Tryz.prog 63 #[.string ⟨#[101, 113, 117, 97, 108]⟩, .slice (some ⟨W.heap.size, 0, none⟩) 6 6] (W.alloc (.cells #[.int .i64 g, .int .i64 (powM g x 2305843009213691579), .int .i64 h, .int .i64 (powM h x 2305843009213691579), .int .i64 (powM g (pfK x g h) 2305843009213691579), .int .i64 (powM h (pfK x g h) 2305843009213691579)] 3)) (fun e wT => e = .returned (.int .i64 (pfC x g h)) ∧ Only (fun _ => False) (W.alloc (.cells #[.int .i64 g, .int .i64 (powM g x 2305843009213691579), .int .i64 h, .int .i64 (powM h x 2305843009213691579), .int .i64 (powM g (pfK x g h) 2305843009213691579), .int .i64 (powM h (pfK x g h) 2305843009213691579)] 3)) wT) from fun W hW => by
    have hP := pts_lit W (pfNums x g h) 3 (by show 6 ≤ _; decide)
    exact escalar_any wEq _ _ _ _ hP HNB.out (by show 6 ≤ _; decide) (by show 2 ≤ 6; decide) (by decide) (HG.out.only (hW.alloc _)))
  clear HNA HNB HKE HCE HNE hg hh hG
  generalize pfK x g h = k at *
  generalize pfC x g h = c at *
  generalize pfZ x g h = z at *
  go_enter Tryz.func45, Tryz.ntmps45
  go_wp2_with fail
  generalize hblk : w.heap.size = blk at *
  generalize w.alloc (.cells #[.int .i64 0, .int .i64 0] 43) = w0 at *
  refine (H1.out _).mono ?_
  rintro e w1 ⟨rfl, hO1⟩
  have HZ1 := Lib.hid (row_still hO1 HZ.out)
  have HO1 := Lib.hid (HA.out.trans hO1)
  clear hO1 HZ
  go_wp2_with fail
  refine (H2.out _).mono ?_
  rintro e w2 ⟨rfl, hO2⟩
  have HZ2 := Lib.hid (row_still hO2 HZ1.out)
  have HO2 := Lib.hid (HO1.out.trans hO2)
  clear hO2 HZ1 HO1 HA H1 H2
  go_wp2_with fail
  refine (HADD.out _).mono ?_
  rintro e w2' ⟨rfl, rfl⟩
  go_wp2_with fail
  have hsa := HSA.out (w2.alloc (.cells #[.int .i64 x] 3)) (HO2.out.alloc _)
  rw [World.size_alloc] at hsa
  refine hsa.mono ?_
  rintro e w3 ⟨rfl, hO3⟩
  have HX3 := Lib.hid (row_still hO3 ((Below.heap_alloc (w2.alloc (.cells #[.int .i64 x] 3)) (.cells #[.int .i64 x, .int .i64 g, .int .i64 h] 3) w2.heap.size (by simp)).trans (heap_alloc_last w2 _)))
  have HZ3 := Lib.hid (row_still (((((Only.refl (fun _ => False) w2).alloc _).alloc _).trans hO3)) HZ2.out)
  have HO3 := Lib.hid (((HO2.out.alloc _).alloc _).trans hO3)
  clear hsa hO3 HSA HADD
  generalize w2.heap.size = b7 at *
  have HX4 := Lib.hid ((Below.heap_alloc w3 (.cells #[.int .i64 k] 3) b7 (Array.getElem?_eq_some_iff.1 HX3.out).1).trans HX3.out)
  have HZ4 := Lib.hid ((Below.heap_alloc w3 (.cells #[.int .i64 k] 3) blk (Array.getElem?_eq_some_iff.1 HZ3.out).1).trans HZ3.out)
  have HK4 := Lib.hid (heap_alloc_last w3 (.cells #[.int .i64 k] 3))
  have HO4 := Lib.hid (HO3.out.alloc (.cells #[.int .i64 k] 3))
  go_wp2_with fail
  generalize w3.heap.size = b8 at *
  generalize w3.alloc (.cells #[.int .i64 k] 3) = w4 at *
  have e7 : _ = some (Value.int .i64 x) := cell_of_row _ _ 0 _ _ _ HX4.out
  have e8 : _ = some (Value.int .i64 k) := cell_of_row _ _ 0 _ _ _ HK4.out
  refine (HPW.out b7 b8 g w4 e7 e8).mono ?_
  rintro e w5 ⟨rfl, hO5⟩
  have HX5 := Lib.hid (row_still hO5 HX4.out)
  have HZ5 := Lib.hid (row_still hO5 HZ4.out)
  have HK5 := Lib.hid (row_still hO5 HK4.out)
  have HO5 := Lib.hid (HO4.out.trans hO5)
  clear hO5 e7 e8 HX4 HZ4 HK4 HO4
  go_wp2_with fail
  have e7 : _ = some (Value.int .i64 x) := cell_of_row _ _ 0 _ _ _ HX5.out
  have e8 : _ = some (Value.int .i64 k) := cell_of_row _ _ 0 _ _ _ HK5.out
  refine (HPW.out b7 b8 h w5 e7 e8).mono ?_
  rintro e w6 ⟨rfl, hO6⟩
  have HX6 := Lib.hid (row_still hO6 HX5.out)
  have HZ6 := Lib.hid (row_still hO6 HZ5.out)
  have HK6 := Lib.hid (row_still hO6 HK5.out)
  have HO6 := Lib.hid (HO5.out.trans hO6)
  clear hO6 e7 e8 HX5 HZ5 HK5 HO5
  go_wp2_with fail
  refine (HSB.out w6 HO6.out).mono ?_
  rintro e w7 ⟨rfl, hO7⟩
  have hO7b := ((Only.refl (fun _ => False) w6).alloc _).trans hO7
  have HZ7 := Lib.hid (row_still hO7b HZ6.out)
  have e7 : _ = some (Value.int .i64 x) := cell_of_row _ _ 0 _ _ _ (row_still hO7b HX6.out)
  have e8 : _ = some (Value.int .i64 k) := cell_of_row _ _ 0 _ _ _ (row_still hO7b HK6.out)
  have HO7 := Lib.hid (HO6.out.trans hO7b)
  clear hO7 hO7b HX6 HZ6 HK6 HO6 HSB HPW
  go_wp2_with fail
  have y0 := fun (d : Nat) (os : Array Obj) => cell_regrown e7 d os
  have y1 := fun (d : Nat) (os : Array Obj) => cell_regrown e8 d os
  clear e7 e8
  have HM := Lib.hid (fun w => mul_any c x 1152921504606845789 w (by decide) (by decide))
  have HAD := Lib.hid (fun w => add_any k (c * x % 1152921504606845789) 1152921504606845789 w (by decide) (by decide))
  rw [← HZE.out] at HAD
  generalize c * x % 1152921504606845789 = cx at *
  refine wp_region_below_split2 6 (by kernel_rfl) (by kernel_rfl) (by kernel_rfl) ?_
  simp only [List.take_succ_cons, List.take_zero, List.drop_succ_cons, List.drop_zero]
  repeat (go_big_quiet_step (fail))
  go_big_quiet_step ((go_at_call 48; exact Calls.regrown_of ((HM.out _).mono fun _ _ h => ⟨h.1, by rw [← h.2]; exact Below.refl _ _⟩)))
  go_big_quiet_step ((go_at_call 44; exact Calls.regrown_of ((HAD.out _).mono fun _ _ h => ⟨h.1, by rw [← h.2]; exact Below.refl _ _⟩)))
  refine wpQuiet_nil ?_
  intro w8 hw'
  obtain ⟨pq, hw''⟩ := hw'
  have HO78 := Lib.hid (Only.ofBelow (below_regrown w7 pq.d pq.os) (fun _ => False))
  rw [← hw''] at HO78
  have HZ8 := Lib.hid (row_still HO78.out HZ7.out)
  have HO8 := Lib.hid (HO7.out.trans HO78.out)
  clear hw'' y0 y1 HO78 HZ7 HO7
  go_wp2_with (first | (refine wpList_store_row rfl 43 _ _ rfl blk #[.int .i64 c, .int .i64 z] rfl rfl 43 _ HZ8.out Tryz.infoPf rfl (pf_one _ _) ?_))
  exact bodyPost_ret (v := .agg #[.int .i64 c, .int .i64 z]) (results_cell_row rfl _ _ blk 43 #[.int .i64 c, .int .i64 z] (0, 0) _ rfl (setRow_heap _ _ _ _ _ _ HZ8.out) Tryz.underlying43 rfl Tryz.infoPf) rfl ⟨rfl, HO8.out.setRow (Nat.le_of_eq hblk) _⟩
end Go.Proofs.YtkpfachmakfncaaGreatDoor

namespace Go.Proofs.YtkpfachmakfncaaGreatDoor
open Go.RowKit

theorem pow_redQ {b n : Int} (hb : memB b = true) (h0 : 0 ≤ n) (h1 : n ≤ 1152921504606845789) : powM b n 2305843009213691579 = powM b (n % 1152921504606845789) 2305843009213691579 := by
  obtain ⟨r0, r1⟩ := emod_self_lt n 1152921504606845789 (by decide)
  rw [powM_eq b n _ (by decide) h0 (by omega), powM_eq b (n % 1152921504606845789) _ (by decide) r0 (by omega)]
  have := ((memB_iff b).1 hb).2.2.exp n.toNat
  have e : n.toNat % 1152921504606845789 = (n % 1152921504606845789).toNat := by omega
  rw [e] at this
  exact this.emod
theorem side_made {b x k c : Int} (hb : memB b = true) (hx : 0 ≤ x ∧ x < 1152921504606845789) (hk : 0 ≤ k ∧ k < 1152921504606845789) (hc : 0 ≤ c ∧ c < 1152921504606845789) :
    sideZ b (powM b x 2305843009213691579) c ((k + c * x % 1152921504606845789) % 1152921504606845789) = powM b k 2305843009213691579 := by
  have hB : memB (powM b x 2305843009213691579) = true := mem_pow hb hx.1 (by omega)
  obtain ⟨r0, r1⟩ := emod_self_lt (1152921504606845789 - c) 1152921504606845789 (by decide)
  obtain ⟨z0, z1⟩ := emod_self_lt (k + c * x % 1152921504606845789) 1152921504606845789 (by decide)
  obtain ⟨s0, s1⟩ := emod_self_lt (x * ((1152921504606845789 - c) % 1152921504606845789)) 1152921504606845789 (by decide)
  unfold sideZ
  rw [pow_redQ hB (by omega) (by omega), powPowQ hb hx.1 hx.2 r0 r1, powAddQ hb z0 z1 s0 s1]
  congr 1
  rw [mul_res, ← Int.add_emod]
  have e1 : (k + c * x % 1152921504606845789) + x * (1152921504606845789 - c) = (k + x * (1152921504606845789 - c)) + c * x % 1152921504606845789 := by omega
  rw [e1, Int.add_emod, Int.emod_emod_of_dvd _ (Int.dvd_refl _), ← Int.add_emod, Int.mul_sub, Int.mul_comm c x]
  have e2 : k + (x * 1152921504606845789 - x * c) + x * c = k + x * 1152921504606845789 := by omega
  rw [e2, Int.add_mul_emod_self_right, Int.emod_eq_of_lt hk.1 hk.2]
/-- A proof that was made is accepted. -/
theorem ver_made {g h x : Int} (hg : memB g = true) (hh : memB h = true) (hx : 0 ≤ x ∧ x < 1152921504606845789) :
    verB g (powM g x 2305843009213691579) h (powM h x 2305843009213691579) (pfC x g h) (pfZ x g h) = true := by
  have hk : 0 ≤ pfK x g h ∧ pfK x g h < 1152921504606845789 := wscZ_bd _ _
  have hc : 0 ≤ pfC x g h ∧ pfC x g h < 1152921504606845789 := wscZ_bd _ _
  obtain ⟨z0, z1⟩ := emod_self_lt (pfK x g h + pfC x g h * x % 1152921504606845789) 1152921504606845789 (by decide)
  have hG : memB (powM g x 2305843009213691579) = true := mem_pow hg hx.1 (by omega)
  have hH : memB (powM h x 2305843009213691579) = true := mem_pow hh hx.1 (by omega)
  have e1 : sideZ g (powM g x 2305843009213691579) (pfC x g h) (pfZ x g h) = powM g (pfK x g h) 2305843009213691579 := side_made hg hx hk hc
  have e2 : sideZ h (powM h x 2305843009213691579) (pfC x g h) (pfZ x g h) = powM h (pfK x g h) 2305843009213691579 := side_made hh hx hk hc
  have hr : rngB (pfC x g h) (pfZ x g h) = true := by
    have : 0 ≤ pfZ x g h ∧ pfZ x g h < 1152921504606845789 := ⟨z0, z1⟩
    unfold rngB
    rw [decide_eq_false (by omega), decide_eq_false (by omega), decide_eq_false (by omega), decide_eq_false (by omega)]
    rfl
  unfold verB
  rw [hg, hG, hh, hH, hr]
  simp only [Bool.and_self, Bool.true_and, beq_iff_eq]
  unfold vNums
  rw [e1, e2]
  rfl
end Go.Proofs.YtkpfachmakfncaaGreatDoor

namespace Go.Proofs.YtkpfachmakfncaaGreatDoor
open Go.RowKit

/-- A member of the group from a number. -/
def madeZ (n : Int) : Int := (1 + n % 2305843009213691578) * (1 + n % 2305843009213691578) % 2305843009213691579
theorem Tryz.infoCp : (Tryz.prog.info? 45).map (·.size) = some 4 := by kernel_rfl
theorem cp_one (a b c d : Int) : (#[Value.int .i64 a, .int .i64 b, .int .i64 c, .int .i64 d] : Array Value).all (·.oneCell') = true := by simp [Value.oneCell']
theorem mem4 : memB 4 = true := by kernel_rfl
set_option maxRecDepth 100000 in
set_option maxHeartbeats 2000000 in
theorem complain_yes (a0 a2 : Option Addr) (k0 k2 : Nat) (d : Dl) (key : Int) (i : Nat) (w : World) (_hbx : d.bx.length ≤ 1000000) (hi : i < d.bx.length) (hpt : memB d.pt = true) (hG : Glob w) :
    Calls Tryz.prog 18 #[.int .i64 key, .agg #[.slice a0 d.cm.length k0, .int .i64 d.pt, .slice a2 d.bx.length k2], .int .i64 i] w fun e w' => e = .returned (.agg #[.int .i64 i, .int .i64 (seedN d key), .int .i64 (pfC (key % 1152921504606845789) 4 d.pt), .int .i64 (pfZ (key % 1152921504606845789) 4 d.pt)]) ∧ Only (fun _ => False) w w' := by
  have hA := ((Only.refl (fun _ => False) w).alloc (.cells #[.slice a0 d.cm.length k0, .int .i64 d.pt, .slice a2 d.bx.length k2] 25)).alloc (.cells #[.int .i64 0, .int .i64 0, .int .i64 0, .int .i64 0] 45)
  have hz1 := heap_alloc_last (w.alloc (.cells #[.slice a0 d.cm.length k0, .int .i64 d.pt, .slice a2 d.bx.length k2] 25)) (.cells #[.int .i64 0, .int .i64 0, .int .i64 0, .int .i64 0] 45)
  have hz0 := (Below.heap_alloc (w.alloc (.cells #[.slice a0 d.cm.length k0, .int .i64 d.pt, .slice a2 d.bx.length k2] 25)) (.cells #[.int .i64 0, .int .i64 0, .int .i64 0, .int .i64 0] 45) w.heap.size (by simp)).trans (heap_alloc_last w _)
  rw [World.size_alloc] at hz1
  have HA := Lib.hid hA
  have HZ1 := Lib.hid hz1
  have HZ0 := Lib.hid hz0
  have HG := Lib.hid hG
  have f1 : _ = some (Value.int .i64 d.pt) := cell_of_row _ _ 1 _ _ _ hz0
  have f2 : _ = some (Value.slice a2 d.bx.length k2) := cell_of_row _ _ 2 _ _ _ hz0
  have HMB := Lib.hid (fun w => member_is d.pt true w hpt)
  obtain ⟨x0, x1⟩ := emod_self_lt key 1152921504606845789 (by decide)
  have HADD := Lib.hid (fun w => add_any key 0 1152921504606845789 w (by decide) (by decide))
  rw [Int.add_zero] at HADD
  have HPW := Lib.hid (fun w => pow_any d.pt (key % 1152921504606845789) 2305843009213691579 w (by decide) (by decide) x0 (by omega))
  have HPR := Lib.hid (fun w hG => prove_yes key 4 d.pt w mem4 hpt hG)
  have HSN := Lib.hid (show seedN d key = powM d.pt (key % 1152921504606845789) 2305843009213691579 from rfl)
  rw [← HSN.out] at HPW
  have i1 : ¬ (i : Int) < 0 := by omega
  have i2 : ¬ (d.bx.length : Int) ≤ i := by omega
  clear hA hz0 hz1 hG hpt
  generalize pfC (key % 1152921504606845789) 4 d.pt = c at *
  generalize pfZ (key % 1152921504606845789) 4 d.pt = z at *
  generalize seedN d key = sn at *
  generalize key % 1152921504606845789 = x at *
  go_enter Tryz.func18, Tryz.ntmps18
  go_wp2_with fail
  generalize hblk : w.heap.size = blk at *
  generalize (w.alloc (.cells #[.slice a0 d.cm.length k0, .int .i64 d.pt, .slice a2 d.bx.length k2] 25)).alloc (.cells #[.int .i64 0, .int .i64 0, .int .i64 0, .int .i64 0] 45) = w1 at *
  refine (HMB.out _).mono ?_
  rintro e w2 ⟨rfl, hO2⟩
  have HZ2 := Lib.hid (row_still hO2 HZ1.out)
  have e1 : _ = some (Value.int .i64 d.pt) := cell_of_row _ _ 1 _ _ _ (row_still hO2 HZ0.out)
  have HO2 := Lib.hid (HA.out.trans hO2)
  have HG2 := Lib.hid (HG.out.only HO2.out)
  clear hO2 HZ1 HZ0 HA f1 f2
  go_wp2_with fail
  have y1 := fun (d : Nat) (os : Array Obj) => cell_regrown e1 d os
  clear e1
  refine wp_region_below_split2 10 (by kernel_rfl) (by kernel_rfl) (by kernel_rfl) ?_
  simp only [List.take_succ_cons, List.take_zero, List.drop_succ_cons, List.drop_zero]
  repeat (go_big_quiet_step ((first | (go_at_call 44; exact Calls.regrown_of ((HADD.out _).mono fun _ _ h => ⟨h.1, by rw [← h.2]; exact Below.refl _ _⟩)) | (go_at_call 39; exact Calls.regrown_of ((HPW.out _).mono fun _ _ h => ⟨h.1, by rw [h.2]; exact (Below.refl _ _).alloc (Nat.le_refl _) _⟩)) | (go_at_call 45; exact Calls.regrown_of ((HPR.out _ (Glob.grown HG2.out _ _)).mono fun _ _ h => ⟨h.1, h.2.below (Nat.le_refl _) (fun _ _ h => h)⟩)))))
  refine wpQuiet_nil ?_
  intro w3 hw'
  obtain ⟨pq, hw''⟩ := hw'
  have HO23 := Lib.hid (Only.ofBelow (below_regrown w2 pq.d pq.os) (fun _ => False))
  rw [← hw''] at HO23
  have HO := Lib.hid (HO2.out.trans HO23.out)
  have HZ3 := Lib.hid (row_still HO23.out HZ2.out)
  clear hw'' y1
  go_wp2_with (first | (refine wpList_store_row rfl 45 _ _ rfl (blk + 1) #[.int .i64 i, .int .i64 sn, .int .i64 c, .int .i64 z] rfl rfl 45 _ HZ3.out Tryz.infoCp rfl (cp_one _ _ _ _) ?_))
  exact bodyPost_ret (v := .agg #[.int .i64 i, .int .i64 sn, .int .i64 c, .int .i64 z]) (results_cell_row rfl _ _ (blk + 1) 45 #[.int .i64 i, .int .i64 sn, .int .i64 c, .int .i64 z] (0, 0) _ rfl (setRow_heap _ _ _ _ _ _ HZ3.out) Tryz.underlying45 rfl Tryz.infoCp) rfl ⟨rfl, HO.out.setRow (by omega) _⟩
end Go.Proofs.YtkpfachmakfncaaGreatDoor

namespace Go.Proofs.YtkpfachmakfncaaGreatDoor
open Go.RowKit

def judgeZ (K : List Int) (d : Dl) (idx key c z : Int) : Int :=
  if chkB d K.length = true ∧ 0 ≤ idx ∧ idx < K.length ∧ verB 4 (ptAt K idx.toNat) d.pt key c z = true then (if (unsV d key.toNat idx.toNat).2.2 = true then 2 else 1) else 0
theorem judgeZ_no {K : List Int} {d : Dl} {idx key c z : Int} (h : ¬ (chkB d K.length = true ∧ 0 ≤ idx ∧ idx < K.length ∧ verB 4 (ptAt K idx.toNat) d.pt key c z = true)) : judgeZ K d idx key c z = 0 := by unfold judgeZ; rw [if_neg h]
theorem verB_mem {g a h b c z : Int} (hv : verB g a h b c z = true) : memB b = true := by
  unfold verB at hv
  simp only [Bool.and_eq_true] at hv
  exact hv.1.2
theorem Tryz.infoDj : (Tryz.prog.info? 25).map (·.size) = some 3 := by kernel_rfl
theorem Tryz.infoSj : (Tryz.prog.info? 48).map (·.size) = some 2 := by kernel_rfl
theorem chkB_len {d : Dl} {n : Nat} (h : chkB d n = true) : d.bx.length = n := by
  unfold chkB at h
  simp only [Bool.and_eq_true, decide_eq_true_eq] at h
  exact h.1.1.1
set_option maxRecDepth 100000 in
set_option maxHeartbeats 4000000 in
theorem judge_any (av a0 a2 : Option Addr) (cv k0 k2 : Nat) (K : List Int) (d : Dl) (idx key c z : Int) (w : World) (hK : PtsAt w.heap.size w (.slice av K.length cv) K) (hD : DlAt w (.slice a0 d.cm.length k0) (.int .i64 d.pt) (.slice a2 d.bx.length k2) d) (hcm : d.cm.length ≤ 1000000) (hbx : d.bx.length ≤ 1000000) (hKl : K.length ≤ 1000) (hs : ∀ i, (sAt d.bx i).size ≤ 9223372036854775807) (hG : Glob w) :
    Calls Tryz.prog 17 #[.slice av K.length cv, .agg #[.slice a0 d.cm.length k0, .int .i64 d.pt, .slice a2 d.bx.length k2], .agg #[.int .i64 idx, .int .i64 key, .int .i64 c, .int .i64 z]] w fun e w' => e = .returned (.int .i64 (judgeZ K d idx key c z)) ∧ Only (fun _ => False) w w' := by
  have hA := ((Only.refl (fun _ => False) w).alloc (.cells #[.slice a0 d.cm.length k0, .int .i64 d.pt, .slice a2 d.bx.length k2] 25)).alloc (.cells #[.int .i64 idx, .int .i64 key, .int .i64 c, .int .i64 z] 45)
  have hz1 := heap_alloc_last (w.alloc (.cells #[.slice a0 d.cm.length k0, .int .i64 d.pt, .slice a2 d.bx.length k2] 25)) (.cells #[.int .i64 idx, .int .i64 key, .int .i64 c, .int .i64 z] 45)
  have hz0 := (Below.heap_alloc (w.alloc (.cells #[.slice a0 d.cm.length k0, .int .i64 d.pt, .slice a2 d.bx.length k2] 25)) (.cells #[.int .i64 idx, .int .i64 key, .int .i64 c, .int .i64 z] 45) w.heap.size (by simp)).trans (heap_alloc_last w _)
  rw [World.size_alloc] at hz1
  obtain ⟨ck, hck⟩ : ∃ ck, chkB d K.length = ck := ⟨_, rfl⟩
  have HCK := Lib.hid (fun w' hO => check_is a0 a2 k0 k2 d K.length ck w' (hD.only (A := w) (B := w') hO) hKl hbx hcm hck)
  have HJ := Lib.hid (show judgeZ K d idx key c z = if ck = true ∧ 0 ≤ idx ∧ idx < K.length ∧ verB 4 (ptAt K idx.toNat) d.pt key c z = true then (if (unsV d key.toNat idx.toNat).2.2 = true then 2 else 1) else 0 by rw [← hck]; rfl)
  have HBL := Lib.hid (fun h : ck = true => chkB_len (hck.trans h))
  have HA := Lib.hid hA
  have HZ1 := Lib.hid hz1
  have HZ0 := Lib.hid hz0
  have HG := Lib.hid hG
  have HD := Lib.hid hD
  have HK := Lib.hid hK
  clear hA hz1 hz0 hD hG hK hck
  obtain ⟨J, hJ⟩ : ∃ J, judgeZ K d idx key c z = J := ⟨_, rfl⟩
  rw [hJ] at HJ ⊢
  clear hJ
  go_enter Tryz.func17, Tryz.ntmps17
  go_wp2_with (first | (refine wpList_load_row rfl 25 _ rfl w.heap.size rfl 25 #[.slice a0 d.cm.length k0, .int .i64 d.pt, .slice a2 d.bx.length k2] (0, 0) _ HZ0.out Tryz.underlying25 rfl Tryz.infoDj ?_))
  refine (HCK.out _ HA.out).mono ?_
  rintro e w2 ⟨rfl, hO2⟩
  have HZ2 := Lib.hid (row_still hO2 HZ1.out)
  have HD2 := Lib.hid (row_still hO2 HZ0.out)
  have HO2 := Lib.hid (HA.out.trans hO2)
  have HK2 := Lib.hid (HK.out.only HO2.out)
  have HDD := Lib.hid (HD.out.only HO2.out)
  clear hO2 HZ1 HZ0 HA HCK HK HD
  generalize hblk : w.heap.size = blk at *
  have c0 : _ = some (Value.int .i64 idx) := cell_of_row _ _ 0 _ _ _ HZ2.out
  have c1 : _ = some (Value.int .i64 key) := cell_of_row _ _ 1 _ _ _ HZ2.out
  have c2 : _ = some (Value.int .i64 c) := cell_of_row _ _ 2 _ _ _ HZ2.out
  have c3 : _ = some (Value.int .i64 z) := cell_of_row _ _ 3 _ _ _ HZ2.out
  have d1 : _ = some (Value.int .i64 d.pt) := cell_of_row _ _ 1 _ _ _ HD2.out
  cases ck
  · have HJ0 := Lib.hid (show J = 0 by rw [HJ.out, if_neg (by simp)])
    go_wp2
    go_ret
    exact ⟨by rw [HJ0.out]; rfl, HO2.out⟩
  · by_cases h0 : idx < 0
    · have HJ0 := Lib.hid (show J = 0 by rw [HJ.out, if_neg (by intro h; omega)])
      go_wp2
      go_ret
      exact ⟨by rw [HJ0.out]; rfl, HO2.out⟩
    · by_cases h1 : (K.length : Int) ≤ idx
      · have HJ0 := Lib.hid (show J = 0 by rw [HJ.out, if_neg (by intro h; omega)])
        go_wp2
        go_ret
        exact ⟨by rw [HJ0.out]; rfl, HO2.out⟩
      · obtain ⟨i, rfl⟩ := Int.eq_ofNat_of_zero_le (show 0 ≤ idx by omega)
        have hik : i < K.length := by omega
        obtain ⟨b, off, hav, hb, hc1, hc2, hcell⟩ := HK2.out.cellAt (k := i) hik
        cases hav
        have HBX := Lib.hid (show i < d.bx.length by rw [HBL.out rfl]; exact hik)
        rw [Int.toNat_natCast] at HJ
        obtain ⟨vv, hvv⟩ : ∃ vv, verB 4 (ptAt K i) d.pt key c z = vv := ⟨_, rfl⟩
        have HVE := Lib.hid (fun w hG => verify_any 4 (ptAt K i) d.pt key c z w hG)
        have HMB := Lib.hid (fun h : vv = true => memB_bd (verB_mem (hvv.trans h)))
        rw [hvv] at HVE
        have HJ1 := Lib.hid (show J = if vv = true then (if (unsV d key.toNat i).2.2 = true then 2 else 1) else 0 by
          rw [HJ.out, hvv]
          by_cases hv : vv = true
          · rw [if_pos ⟨rfl, by omega, by omega, hv⟩, if_pos hv]
          · rw [if_neg (fun h => hv h.2.2.2), if_neg hv])
        have HG2 := Lib.hid (HG.out.only HO2.out)
        clear hvv HJ HBL HG HK2
        generalize ptAt K i = kk at *
        have p0 := hcell.2
        clear hcell
        go_wp2_with fail
        have y0 := fun (d : Nat) (os : Array Obj) => cell_regrown c0 d os
        have y1 := fun (d : Nat) (os : Array Obj) => cell_regrown c1 d os
        have y2 := fun (d : Nat) (os : Array Obj) => cell_regrown c2 d os
        have y3 := fun (d : Nat) (os : Array Obj) => cell_regrown c3 d os
        have y4 := fun (d : Nat) (os : Array Obj) => cell_regrown d1 d os
        have y5 := fun (d : Nat) (os : Array Obj) => cell_regrown p0 d os
        clear c0 c1 c2 c3 d1 p0
        refine wp_region_quiet_below (by kernel_rfl) (by kernel_rfl) ?_
        repeat (go_big_quiet_step ((first | (go_at_call 42; exact Calls.regrown_of ((HVE.out _ (Glob.grown HG2.out _ _)).mono fun _ _ h => ⟨h.1, h.2.below (Nat.le_refl _) (fun _ _ h => h)⟩)))))
        refine wpQuiet_nil ?_
        intro w3 hw'
        obtain ⟨pq, hw''⟩ := hw'
        have HO23 := Lib.hid (Only.ofBelow (below_regrown w2 pq.d pq.os) (fun _ => False))
        rw [← hw''] at HO23
        have HO3 := Lib.hid (HO2.out.trans HO23.out)
        have HZ3 := Lib.hid (row_still HO23.out HZ2.out)
        have HD3 := Lib.hid (row_still HO23.out HD2.out)
        have HDE := Lib.hid (HDD.out.only HO23.out)
        have HG3 := Lib.hid (HG2.out.only HO23.out)
        clear hw'' y0 y1 y2 y3 y4 y5 HO23 HZ2 HD2 HDD HG2 HO2 HVE
        cases vv
        · have HJ0 := Lib.hid (show J = 0 by rw [HJ1.out, if_neg (by simp)])
          go_wp2
          go_ret
          exact ⟨by rw [HJ0.out]; rfl, HO3.out⟩
        · have hmb := HMB.out rfl
          obtain ⟨n, rfl⟩ := Int.eq_ofNat_of_zero_le (show 0 ≤ key by omega)
          rw [Int.toNat_natCast] at HJ1
          have HU := Lib.hid (unseal_any a0 a2 k0 k2 d n i w3 HDE.out hcm hbx HBX.out (by omega) (hs i) HG3.out)
          have c0 : _ = some (Value.int .i64 i) := cell_of_row _ _ 0 _ _ _ HZ3.out
          have c1 : _ = some (Value.int .i64 n) := cell_of_row _ _ 1 _ _ _ HZ3.out
          have HJ2 := Lib.hid (show J = if (unsV d n i).2.2 = true then 2 else 1 by rw [HJ1.out, if_pos rfl])
          clear HJ1 HMB hmb
          obtain ⟨R, hR⟩ : ∃ R, unsV d n i = R := ⟨_, rfl⟩
          rw [hR] at HU HJ2
          clear hR
          obtain ⟨r1, r2, r3⟩ := R
          go_wp2_with (first | (refine wpList_load_row rfl 25 _ rfl blk rfl 25 #[.slice a0 d.cm.length k0, .int .i64 d.pt, .slice a2 d.bx.length k2] (0, 0) _ HD3.out Tryz.underlying25 rfl Tryz.infoDj ?_))
          refine HU.out.mono ?_
          rintro e w4 ⟨rfl, hO4⟩
          have HO4 := Lib.hid (HO3.out.trans hO4)
          clear hO4 HU HD3 HZ3 HDE HG3 c0 c1
          have HS4 := Lib.hid (heap_alloc_last w4 (.cells #[.int .i64 0, .int .i64 0] 48))
          have HO5 := Lib.hid ((HO4.out.alloc (.cells #[.int .i64 0, .int .i64 0] 48)).setRow (show w.heap.size ≤ w4.heap.size from HO4.out.size) #[.int .i64 r1, .int .i64 r2])
          cases r3
          all_goals go_wp2_with (first | (refine wpList_store_row rfl 48 _ _ rfl w4.heap.size #[.int .i64 r1, .int .i64 r2] rfl rfl 48 _ HS4.out Tryz.infoSj rfl (two_one _ _) ?_))
          all_goals (go_ret; exact ⟨by rw [HJ2.out]; rfl, HO5.out⟩)
end Go.Proofs.YtkpfachmakfncaaGreatDoor

namespace Go.Proofs.YtkpfachmakfncaaGreatDoor
open Go.RowKit

theorem join_snoc (sep x : List UInt8) : ∀ l : List (List UInt8), l ≠ [] → Lib.join (l ++ [x]) sep = Lib.join l sep ++ sep ++ x
  | [], h => absurd rfl h
  | y :: r, _ => by
    rw [List.cons_append, Lib.join_cons, Lib.join_cons]
    simp [Lib.joinTail, List.append_assoc]
theorem digsL_take (zs : List Int) (k : Nat) (h : k < zs.length) : (digsL (zs.take (k + 1))).map (·.data.toList) = (digsL (zs.take k)).map (·.data.toList) ++ [(decB (ptAt zs k).toNat).data.toList] := by
  have e : zs.take (k + 1) = zs.take k ++ [ptAt zs k] := by rw [List.take_add_one]; simp [ptAt, List.getD, h]
  rw [e]
  simp only [digsL, List.map_append, List.map_cons, List.map_nil]
theorem joinN_first (zs : List Int) (h : 0 < zs.length) : joinN (zs.take (0 + 1)) = decB (ptAt zs 0).toNat := by
  unfold joinN joinL
  rw [digsL_take zs 0 h]
  apply ByteArray.ext
  simp [digsL, Lib.join_one]
theorem joinN_next (zs : List Int) (k : Nat) (h : k < zs.length) (hk : 0 < k) : joinN (zs.take (k + 1)) = joinN (zs.take k) ++ (⟨#[47]⟩ : ByteArray) ++ decB (ptAt zs k).toNat := by
  unfold joinN joinL
  rw [digsL_take zs k h, join_snoc]
  · apply ByteArray.ext
    simp
  · intro e
    have := congrArg List.length e
    simp only [digsL, List.length_map, List.length_take, List.length_nil] at this
    omega
theorem Nats.take {zs : List Int} (h : Nats zs) (k : Nat) : Nats (zs.take k) := fun z hz => h z (List.mem_of_mem_take hz)
end Go.Proofs.YtkpfachmakfncaaGreatDoor

namespace Go.Proofs.YtkpfachmakfncaaGreatDoor
open Go.RowKit

/-- A number in decimal. -/
def decI (n : Int) : ByteArray := ⟨(Lib.itoa n).toArray⟩
theorem decI_nat (n : Nat) : decI n = decB n := by unfold decI decB; rw [Lib.itoa_nonneg]
theorem decI_pos {z : Int} (h : 0 ≤ z) : decI z = decB z.toNat := by
  obtain ⟨n, rfl⟩ := Int.eq_ofNat_of_zero_le h
  rw [decI_nat]; rfl
theorem decI_neg {z : Int} (h : z < 0) : decI z = (⟨#[45]⟩ : ByteArray) ++ decB (-z).toNat := by
  obtain ⟨n, hn⟩ := Int.eq_ofNat_of_zero_le (show 0 ≤ -z by omega)
  obtain rfl : z = -(n : Int) := by omega
  unfold decI decB
  rw [Lib.itoa_neg n (by omega), Int.neg_neg, Int.toNat_natCast]
  apply ByteArray.ext
  simp
theorem decI_size {z : Int} (h0 : -9223372036854775808 ≤ z) (h1 : z ≤ 9223372036854775807) : (decI z).size ≤ 21 := by
  have := Lib.itoa_length_le z h0 h1
  show (Lib.itoa z).toArray.size ≤ 21
  simpa using this
theorem itoaI_any (z : Int) (w : World) (h0 : -9223372036854775808 ≤ z) (h1 : z ≤ 9223372036854775807) (hG : Glob w) :
    Calls Tryz.prog 25 #[.int .i64 z] w fun e w' => e = .returned (.string (decI z)) ∧ Only (fun _ => False) w w' :=
  (Tryz.strconv_Itoa z h0 h1 w hG.pow).mono fun e w' h => by
    obtain ⟨he, k, os, hw⟩ := h
    exact ⟨he, hw ▸ only_grown w k os⟩
theorem dec_split (q r : Nat) (hq : 1 ≤ q) (hr : r < 10) : decB (10 * q + r) = decB q ++ decB r := by
  unfold decB
  rw [Lib.decDigits, dif_neg (by omega), show (10 * q + r) / 10 = q by omega, show (10 * q + r) % 10 = r by omega, Lib.decDigits_one hr]
  apply ByteArray.ext
  simp
theorem tdiv_neg10 {z : Int} (h : z < 0) : z.tdiv 10 = -((-z) / 10) ∧ z.tmod 10 = -((-z) % 10) := by
  have h1 : (-z).tdiv 10 = (-z) / 10 := Int.tdiv_eq_ediv_of_nonneg (by omega)
  have h2 : (-z).tmod 10 = (-z) % 10 := Int.tmod_eq_emod_of_nonneg (by omega)
  rw [Int.neg_tdiv] at h1
  rw [Int.neg_tmod] at h2
  omega
theorem decI_step {z : Int} (h : z ≤ -10) : decI z = decI (z.tdiv 10) ++ decB (-(z.tmod 10)).toNat := by
  obtain ⟨e1, e2⟩ := tdiv_neg10 (show z < 0 by omega)
  rw [decI_neg (by omega), decI_neg (z := z.tdiv 10) (by omega), e1, e2, Int.neg_neg, Int.neg_neg]
  obtain ⟨n, hn⟩ := Int.eq_ofNat_of_zero_le (show 0 ≤ -z by omega)
  rw [hn, Int.toNat_natCast]
  have e3 : ((n : Int) / 10).toNat = n / 10 := by omega
  have e4 : ((n : Int) % 10).toNat = n % 10 := by omega
  rw [e3, e4]
  have := dec_split (n / 10) (n % 10) (by omega) (by omega)
  rw [show 10 * (n / 10) + n % 10 = n by omega] at this
  rw [this]
  apply ByteArray.ext
  simp
theorem rofZ_any (z : Int) (w : World) (h0 : 0 ≤ z) (h1 : z ≤ 9223372036854775807) :
    Calls Tryz.prog 56 #[.int .i64 z] w fun e w' => e = .returned (.string (natB z.toNat)) ∧ Only (fun _ => False) w w' :=
  (rofI_any z w h0 h1).mono fun _ _ h => ⟨h.1, Only.ofBelow h.2 _⟩
end Go.Proofs.YtkpfachmakfncaaGreatDoor

namespace Go.Proofs.YtkpfachmakfncaaGreatDoor
open Go.RowKit

theorem decI_least : decI (-9223372036854775808) = ⟨#[45, 57, 50, 50, 51, 51, 55, 50, 48, 51, 54, 56, 53, 52, 55, 55, 53, 56, 48, 56]⟩ := by
  rw [decI_neg (by decide)]
  have : decB (- (-9223372036854775808 : Int)).toNat = ⟨#[57, 50, 50, 51, 51, 55, 50, 48, 51, 54, 56, 53, 52, 55, 55, 53, 56, 48, 56]⟩ := by
    unfold decB
    rw [show (- (-9223372036854775808 : Int)).toNat = 9223372036854775808 from rfl]
    have : Lib.decDigits 9223372036854775808 = [57, 50, 50, 51, 51, 55, 50, 48, 51, 54, 56, 53, 52, 55, 55, 53, 56, 48, 56] := by
      repeat (rw [Lib.decDigits, dif_neg (by decide)])
      rw [Lib.decDigits_one (by decide)]
      rfl
    rw [this]
  rw [this]
  rfl
theorem decI_least_of {z : Int} (h : z = -9223372036854775808) : decI z = ⟨#[45, 57, 50, 50, 51, 51, 55, 50, 48, 51, 54, 56, 53, 52, 55, 55, 53, 56, 48, 56]⟩ := by rw [h]; exact decI_least
set_option maxHeartbeats 1000000 in
theorem rdecI7_any (z : Int) (w : World) (h0 : -9223372036854775808 ≤ z) (h1 : z ≤ 9223372036854775807) :
    Calls Tryz.prog 30 #[.int .i64 z] w fun e w' => e = .returned (.string (decI z)) ∧ Only (fun _ => False) w w' := by
  by_cases hm : z = -9223372036854775808
  · have HD := Lib.hid (decI_least_of hm)
    have b0 : (z == -9223372036854775808) = true := by rw [hm]; decide
    clear hm
    go_enter Tryz.func30, Tryz.ntmps30
    go_wp2
    go_ret
    exact ⟨by rw [HD.out]; rfl, Only.refl _ _⟩
  · have b0 : (z == -9223372036854775808) = false := by rw [beq_eq_false_iff_ne]; exact hm
    by_cases hz : z < 0
    · have HD := Lib.hid (decI_neg hz)
      obtain ⟨n, hn⟩ := Int.eq_ofNat_of_zero_le (show 0 ≤ -z by omega)
      have H1 := Lib.hid (rofZ_any (-z) w (by omega) (by omega))
      have H2 := Lib.hid (fun w => rtext1_any (-z).toNat w (by omega))
      have hs := decB_size (n := (-z).toNat) (by omega)
      have hz2 : -9223372036854775807 ≤ z := by omega
      clear hn
      generalize decB (-z).toNat = D at *
      generalize natB (-z).toNat = bn at *
      go_enter Tryz.func30, Tryz.ntmps30
      go_wp2_with fail
      refine H1.out.mono ?_
      rintro e w1 ⟨rfl, hO1⟩
      have HO1 := Lib.hid hO1
      clear hO1 H1
      go_wp2_with fail
      refine (H2.out _).mono ?_
      rintro e w2 ⟨rfl, hO2⟩
      have HO2 := Lib.hid (HO1.out.trans hO2)
      clear hO2
      go_wp2
      go_ret
      exact ⟨by rw [HD.out]; rfl, HO2.out⟩
    · have HD := Lib.hid (decI_pos (z := z) (by omega))
      have H1 := Lib.hid (rofZ_any z w (by omega) (by omega))
      have H2 := Lib.hid (fun w => rtext1_any z.toNat w (by omega))
      have hs := decB_size (n := z.toNat) (by omega)
      generalize decB z.toNat = D at *
      generalize natB z.toNat = bn at *
      go_enter Tryz.func30, Tryz.ntmps30
      go_wp2_with fail
      refine H1.out.mono ?_
      rintro e w1 ⟨rfl, hO1⟩
      have HO1 := Lib.hid hO1
      clear hO1 H1
      go_wp2_with fail
      refine (H2.out _).mono ?_
      rintro e w2 ⟨rfl, hO2⟩
      have HO2 := Lib.hid (HO1.out.trans hO2)
      clear hO2
      go_wp2
      go_ret
      exact ⟨by rw [HD.out]; rfl, HO2.out⟩
end Go.Proofs.YtkpfachmakfncaaGreatDoor

namespace Go.Proofs.YtkpfachmakfncaaGreatDoor
open Go.RowKit

set_option maxHeartbeats 1000000 in
theorem complain_no (a0 a2 : Option Addr) (k0 k2 : Nat) (d : Dl) (key : Int) (w : World) (hb : d.bx.length = 0) :
    Calls Tryz.prog 18 #[.int .i64 key, .agg #[.slice a0 d.cm.length k0, .int .i64 d.pt, .slice a2 d.bx.length k2], .int .i64 0] w fun e w' => e = .returned (.agg #[.int .i64 0, .int .i64 0, .int .i64 0, .int .i64 0]) ∧ Only (fun _ => False) w w' := by
  rw [hb]
  have hA := ((Only.refl (fun _ => False) w).alloc (.cells #[.slice a0 d.cm.length k0, .int .i64 d.pt, .slice a2 0 k2] 25)).alloc (.cells #[.int .i64 0, .int .i64 0, .int .i64 0, .int .i64 0] 45)
  have hz1 := heap_alloc_last (w.alloc (.cells #[.slice a0 d.cm.length k0, .int .i64 d.pt, .slice a2 0 k2] 25)) (.cells #[.int .i64 0, .int .i64 0, .int .i64 0, .int .i64 0] 45)
  have hz0 := (Below.heap_alloc (w.alloc (.cells #[.slice a0 d.cm.length k0, .int .i64 d.pt, .slice a2 0 k2] 25)) (.cells #[.int .i64 0, .int .i64 0, .int .i64 0, .int .i64 0] 45) w.heap.size (by simp)).trans (heap_alloc_last w _)
  rw [World.size_alloc] at hz1
  have HA := Lib.hid hA
  have HZ1 := Lib.hid hz1
  have f2 : _ = some (Value.slice a2 0 k2) := cell_of_row _ _ 2 _ _ _ hz0
  clear hA hz0 hz1
  go_enter Tryz.func18, Tryz.ntmps18
  go_wp2_with (first | (refine wpList_store_row rfl 45 _ _ rfl (w.heap.size + 1) #[.int .i64 0, .int .i64 0, .int .i64 0, .int .i64 0] rfl rfl 45 _ HZ1.out Tryz.infoCp rfl (cp_one _ _ _ _) ?_))
  exact bodyPost_ret (v := .agg #[.int .i64 0, .int .i64 0, .int .i64 0, .int .i64 0]) (results_cell_row rfl _ _ (w.heap.size + 1) 45 #[.int .i64 0, .int .i64 0, .int .i64 0, .int .i64 0] (0, 0) _ rfl (setRow_heap _ _ _ _ _ _ HZ1.out) Tryz.underlying45 rfl Tryz.infoCp) rfl ⟨rfl, HA.out.setRow (by omega) _⟩
end Go.Proofs.YtkpfachmakfncaaGreatDoor
