/-
  Numbers in decimal: the reference's Text, decimal. Numbers in decimal: the reference's rational numbers that are whole; Text, decimal, Pad.
  The reference's dealings: Pad, Seal, Value, members.
  The reference's dealings: Value, members; Most, Need, Polynomial, Boxes.
  The reference's dealings: Deal, where it deals.
  Plain: the public value of commitments is the power with the polynomial's value. The reference's public value.
  The program's value of a polynomial.
-/
import Derived.Test.YtkpfachmakfncaaGreatDoorPk14
import Derived.Lib.ItoaLen
import Derived.Test.YtkpfachmakfncaaGreatDoorPk12
import Derived.IntWalk
import Derived.Test.YtkpfachmakfncaaGreatDoorPk13
import Derived.Test.YtkpfachmakfncaaGreatDoorPk02
namespace Go.Proofs.YtkpfachmakfncaaGreatDoor
open Go.RowKit

theorem rquo_any (a b : Nat) (w : World) (ha : a < 9223372036854775808) (hb0 : 0 < b) (hb : b < 16777216) :
    Calls Tryz.prog 83 #[.string (natB a), .string (natB b)] w fun e w' => e = .returned (.tuple #[.string (natB (a / b)), .string (natB (a % b)), .bool true]) ∧ Only (fun _ => False) w w' := by
  by_cases h : a < 72057594037927936
  · exact rquo_small a b w h hb0 (by omega)
  · exact rquo_big a b w (by omega) ha hb0 hb
def decB (n : Nat) : ByteArray := ⟨(Lib.decDigits n).toArray⟩
theorem cat_one (x : Nat) (t : List UInt8) : strOfNums [(x : Int)] ++ (⟨t.toArray⟩ : ByteArray) = ⟨(UInt8.ofNat x :: t).toArray⟩ := by
  apply ByteArray.ext
  simp [strOfNums]
theorem decDigits_len {n : Nat} (h : n < 9223372036854775808) : (Lib.decDigits n).length ≤ 21 := by
  have := Lib.itoa_length_le (n : Int) (by omega) (by omega)
  unfold Lib.itoa at this
  rw [if_neg (by omega), Int.toNat_natCast] at this
  exact this
theorem decB_size {n : Nat} (h : n < 9223372036854775808) : (decB n).size ≤ 21 := by
  have := decDigits_len h
  simpa [decB, ByteArray.size] using this
/-- What is still to come, and what has been written. -/
def TextAt (n m : Nat) (t : List UInt8) : Prop := (m = 0 ∧ t = Lib.decDigits n) ∨ (0 < m ∧ Lib.decDigits m ++ t = Lib.decDigits n)
theorem TextAt.next {n m : Nat} {t : List UInt8} (h : TextAt n m t) (hm : 0 < m) : TextAt n (m / 10) (UInt8.ofNat (48 + m % 10) :: t) := by
  rcases h with ⟨h, _⟩ | ⟨_, h⟩
  · omega
  · by_cases h10 : m < 10
    · left
      rw [Lib.decDigits_one h10] at h
      refine ⟨by omega, ?_⟩
      rw [← h, Nat.mod_eq_of_lt h10]; rfl
    · right
      rw [decDigits_step h10, List.append_assoc] at h
      exact ⟨by omega, h⟩
theorem TextAt.len {n m : Nat} {t : List UInt8} (h : TextAt n m t) (hn : n < 9223372036854775808) : t.length ≤ 21 := by
  have h1 := decDigits_len hn
  rcases h with ⟨_, rfl⟩ | ⟨_, h⟩
  · exact h1
  · rw [← h, List.length_append] at h1; omega
theorem natB_empty (m : Nat) : (natB m).size = 0 ↔ m = 0 := by
  rw [natB_size]
  constructor
  · intro h; exact beL_nil (List.eq_nil_of_length_eq_zero h)
  · intro h; rw [h, beL_zero]; rfl

set_option maxRecDepth 100000 in
set_option maxHeartbeats 1000000 in
theorem rtext1_any (n : Nat) (w : World) (hn : n < 9223372036854775808) :
    Calls Tryz.prog 55 #[.string (natB n)] w fun e w' => e = .returned (.string (decB n)) ∧ Only (fun _ => False) w w' := by
  have hs8 : ∀ m, m < 9223372036854775808 → (natB m).size ≤ 8 := fun m hm => by rw [natB_size]; exact beL_len (Nat.lt_of_lt_of_le hm (by decide))
  have hsz := hs8 n hn
  have HC := Lib.hid (rcanon_any (natB n) w (by omega))
  rw [valB_natB] at HC
  have HN := Lib.hid hn
  have HS8 := Lib.hid hs8
  have O10 := Lib.hid (fun w => rof_any 10 w (by decide))
  have HE := Lib.hid natB_empty
  clear hn hs8
  by_cases h0 : n = 0
  · subst h0
    have q0 : (((natB 0).size : Int) == 0) = true := by rw [(HE.out 0).2 rfl]; rfl
    have HD := Lib.hid (show decB 0 = ⟨#[48]⟩ by unfold decB; rw [Lib.decDigits_one (by decide)]; rfl)
    generalize natB 0 = b at *
    go_enter Tryz.func55, Tryz.ntmps55
    go_wp2_with fail
    refine HC.out.mono ?_
    rintro e w' ⟨rfl, rfl⟩
    go_wp2
    go_ret
    exact ⟨by rw [HD.out]; rfl, Only.refl _ _⟩
  · have q0 : (((natB n).size : Int) == 0) = false := beq_eq_false_iff_ne.2 (fun h => h0 ((HE.out n).1 (by omega)))
    have HT0 := Lib.hid (show TextAt n n [] from .inr ⟨by omega, List.append_nil _⟩)
    clear h0
    go_enter Tryz.func55, Tryz.ntmps55
    go_wp2_with fail
    refine HC.out.mono ?_
    rintro e w' ⟨rfl, rfl⟩
    go_wp2_with fail
    go_loopw [0, 3] (fun va vs wr => ∃ (m : Nat) (t : List UInt8), va = .string (natB m) ∧ vs = .string ⟨t.toArray⟩ ∧ m ≤ n ∧ TextAt n m t ∧ Only (fun _ => False) w wr) (fun va _ _ => match va with | .string b => valB b | _ => 0)
    case atStart => exact ⟨n, [], rfl, rfl, Nat.le_refl _, HT0.out, Only.refl _ _⟩
    case round =>
      clear HT0 HC
      obtain ⟨m, t, rfl, rfl, hm, hT, hO⟩ := hrel
      have HO := Lib.hid hO
      have HT := Lib.hid hT
      have hsm := HS8.out m (by have := HN.out; omega)
      have htl : (⟨t.toArray⟩ : ByteArray).size ≤ 21 := by
        have := hT.len HN.out
        simpa [ByteArray.size] using this
      clear hO hT
      by_cases hpos : 0 < m
      · have hsp : 0 < (natB m).size := by
          rcases Nat.eq_zero_or_pos (natB m).size with h | h
          · have := (HE.out m).1 h; omega
          · exact h
        have i1 : (0 : Int) < (natB m).size := by omega
        have HNX := Lib.hid (HT.out.next hpos)
        have HCAT := Lib.hid (cat_one (48 + m % 10) t)
        have HVM := Lib.hid (show valB (natB (m / 10)) < valB (natB m) by rw [valB_natB, valB_natB]; omega)
        have HQ := Lib.hid (fun w => rquo_any m 10 w (by have := HN.out; omega) (by decide) (by decide))
        have HI := Lib.hid (fun w => rint_any (m % 10) w (by omega))
        have hd1 : m % 10 < 10 := Nat.mod_lt _ (by decide)
        have hcv := conv_one
        have hso := strOf_size1
        go_wp2_with fail
        refine (O10.out _).mono ?_
        rintro e w1 ⟨rfl, hO1⟩
        have HO1 := Lib.hid (HO.out.trans hO1)
        clear hO1
        go_wp2_with fail
        refine (HQ.out _).mono ?_
        rintro e w2 ⟨rfl, hO2⟩
        have HO2 := Lib.hid (HO1.out.trans hO2)
        clear hO2 HO1 HQ
        go_wp2_with fail
        refine (HI.out _).mono ?_
        rintro e w3 ⟨rfl, rfl⟩
        clear HI
        generalize m % 10 = d at *
        generalize (⟨t.toArray⟩ : ByteArray) = T at *
        go_wp2
        go_roundw
        case rel => exact ⟨m / 10, UInt8.ofNat (48 + d) :: t, rfl, by rw [← HCAT.out]; rfl, by omega, HNX.out, HO2.out.alloc _⟩
        case measure => exact HVM.out
      · obtain rfl : m = 0 := by omega
        have hsp : (natB 0).size = 0 := (HE.out 0).2 rfl
        have i1 : ¬ (0 : Int) < (natB 0).size := by omega
        have HR := Lib.hid (show (⟨t.toArray⟩ : ByteArray) = decB n by
          rcases HT.out with ⟨_, h⟩ | ⟨h, _⟩
          · rw [h]; rfl
          · omega)
        generalize natB 0 = b at *
        clear hsp
        go_wp2
        go_ret
        exact ⟨by rw [← HR.out]; rfl, HO.out⟩
end Go.Proofs.YtkpfachmakfncaaGreatDoor

namespace Go.Proofs.YtkpfachmakfncaaGreatDoor
open Go.RowKit

theorem natB8 {m : Nat} (hm : m < 9223372036854775808) : (natB m).size ≤ 8 := by rw [natB_size]; exact beL_len (Nat.lt_of_lt_of_le hm (by decide))
/-- A whole number. -/
def ratV (n : Nat) : Value := .agg #[.bool false, .string (natB n), .string (natB 1)]
theorem rat_one (a : Bool) (b c : ByteArray) : (#[Value.bool a, .string b, .string c] : Array Value).all (·.oneCell') = true := by simp [Value.oneCell']
/-- A block that was made last, after a call. -/
theorem row_kept {w w1 : World} {z : Array Value} {t : TypeId} (h : Only (fun _ => False) (w.alloc (.cells z t)) w1) : w1.heap[w.heap.size]? = some (.cells z t (0, 0)) :=
  (h.block w.heap.size (by simp) (fun h => h)).trans (heap_alloc_last w _)
theorem row_still {w w1 : World} {g : Nat} {o : Obj} (h : Only (fun _ => False) w w1) (hg : w.heap[g]? = some o) : w1.heap[g]? = some o :=
  (h.block g (Array.getElem?_eq_some_iff.1 hg).1 (fun h => h)).trans hg

/-- decimal, from 0 on. -/
theorem rdecimal_any (n : Nat) (w : World) (hn : n < 9223372036854775808) :
    Calls Tryz.prog 30 #[.int .i64 n] w fun e w' => e = .returned (.string (decB n)) ∧ Only (fun _ => False) w w' := by
  have H1 := Lib.hid (rof_any n w hn)
  have H2 := Lib.hid (fun w => rtext1_any n w hn)
  have q0 : ((n : Int) == -9223372036854775808) = false := beq_eq_false_iff_ne.2 (by omega)
  have i0 : ¬ (n : Int) < 0 := by omega
  generalize natB n = bn at *
  go_enter Tryz.func30, Tryz.ntmps30
  go_wp2_with fail
  refine H1.out.mono ?_
  rintro e w1 ⟨rfl, hO1⟩
  have HO1 := Lib.hid hO1
  clear hO1 H1
  go_wp2_with fail
  refine (H2.out _).mono ?_
  rintro e w2 ⟨rfl, hO2⟩
  have HO2 := Lib.hid (HO1.out.trans hO2)
  clear hO2
  go_wp2
  go_ret
  exact ⟨rfl, HO2.out⟩
end Go.Proofs.YtkpfachmakfncaaGreatDoor

namespace Go.Proofs.YtkpfachmakfncaaGreatDoor
open Go.RowKit

def padS (k i : Nat) : ByteArray := (⟨#[98, 111, 120, 47]⟩ : ByteArray) ++ decB k ++ ⟨#[47]⟩ ++ decB i
def padL (k i : Nat) : List Int := shaL (padS k i)
theorem padL_bytes (k i : Nat) : Bytes32 (padL k i) := shaL_bytes _

def xor8 (x y : Int) : Int := bits BinOp.xor IntKind.u8 x y
/-- The first bytes of a box. -/
def sbTo (y : Int) (h : List Int) : Nat → List Int
  | 0 => []
  | k + 1 => sbTo y h k ++ [xor8 (y / 2 ^ (56 - 8 * k) % 256) (ptAt h k)]
theorem sbTo_len (y : Int) (h : List Int) : ∀ k, (sbTo y h k).length = k
  | 0 => rfl
  | k + 1 => by rw [sbTo, List.length_append, sbTo_len y h k]; rfl
/-- A box. -/
def sealL (y : Int) (k i : Nat) : List Int := sbTo y (padL k i) 8 ++ ((padL k i).drop 8).take 8
theorem sealL_len (y : Int) (k i : Nat) : (sealL y k i).length = 16 := by
  unfold sealL
  rw [List.length_append, sbTo_len, List.length_take, List.length_drop, (padL_bytes k i).len]; rfl

end Go.Proofs.YtkpfachmakfncaaGreatDoor

namespace Go.Proofs.YtkpfachmakfncaaGreatDoor
open Go.RowKit

theorem drop_at (cs : List Int) (k : Nat) (h : k < cs.length) : cs.drop k = ptAt cs k :: cs.drop (k + 1) := by
  rw [List.drop_eq_getElem_cons h]; simp [ptAt, List.getD, h]
def membersB (zs : List Int) : Bool := zs.all memB
theorem membersB_take (zs : List Int) (k : Nat) (h : k < zs.length) (hb : memB (ptAt zs k) = false) : membersB zs = false := by
  unfold membersB
  rw [List.all_eq_false]
  refine ⟨zs[k], List.getElem_mem h, ?_⟩
  have : ptAt zs k = zs[k] := by simp [ptAt, List.getD, h]
  rw [← this, hb]; simp
theorem membersB_all (zs : List Int) (h : ∀ j, j < zs.length → memB (ptAt zs j) = true) : membersB zs = true := by
  unfold membersB
  rw [List.all_eq_true]
  intro x hx
  obtain ⟨j, hj, rfl⟩ := List.mem_iff_getElem.1 hx
  have := h j hj
  simpa [ptAt, List.getD, hj] using this
end Go.Proofs.YtkpfachmakfncaaGreatDoor

namespace Go.Proofs.YtkpfachmakfncaaGreatDoor
open Go.RowKit

theorem one_later' (w : World) (A : Obj) {p : Addr} {v : Value} (hc : w.cell? p = some v) : ((w.alloc A).drew).cell? p = some v :=
  (((Only.refl (fun _ => False) w).alloc A).drew).cell hc (fun h => h)
/-- A dealing. -/
structure Dl where
  cm : List Int
  pt : Int
  bx : List ByteArray
def sAt (l : List ByteArray) (j : Nat) : ByteArray := l.getD j ByteArray.empty
/-- Strings in a slice. -/
def StrsAt (W : World) (sv : Value) (l : List ByteArray) : Prop :=
  (∃ a c, sv = .slice a 0 c ∧ l = []) ∨ ∃ b off cap, sv = .slice (some ⟨b, off, none⟩) l.length cap ∧ b < W.heap.size ∧ l.length ≤ cap ∧ cap ≤ 9223372036854775807 ∧ ∀ j, j < l.length → W.cell? ⟨b, off + j, none⟩ = some (.string (sAt l j))
theorem StrsAt.only {A B : World} (h : Only (fun _ => False) A B) {sv : Value} {l : List ByteArray} : StrsAt A sv l → StrsAt B sv l
  | .inl e => .inl e
  | .inr ⟨b, off, cap, e, hb, h1, h2, hc⟩ => .inr ⟨b, off, cap, e, Nat.lt_of_lt_of_le hb h.size, h1, h2, fun j hj => h.cell (hc j hj) (fun h => h)⟩
theorem StrsAt.slice {W : World} {v : Value} {l : List ByteArray} (h : StrsAt W v l) : ∃ a c, v = .slice a l.length c := by
  rcases h with ⟨a, c, rfl, rfl⟩ | ⟨b, off, cap, rfl, _⟩
  · exact ⟨_, _, rfl⟩
  · exact ⟨_, _, rfl⟩
/-- The cells of a dealing. -/
structure DlAt (W : World) (c0 c1 c2 : Value) (d : Dl) : Prop where
  cm : PtsAt W.heap.size W c0 d.cm
  pt : c1 = .int .i64 d.pt
  bx : StrsAt W c2 d.bx
theorem DlAt.only {A B : World} (h : Only (fun _ => False) A B) {c0 c1 c2 : Value} {d : Dl} (hd : DlAt A c0 c1 c2 d) : DlAt B c0 c1 c2 d := ⟨hd.cm.only h, hd.pt, hd.bx.only h⟩
def ptS (seed : ByteArray) : ByteArray := (⟨#[112, 111, 105, 110, 116, 47]⟩ : ByteArray) ++ seed
def cmTo (cs : List Int) : Nat → List Int
  | 0 => []
  | k + 1 => cmTo cs k ++ [powM 4 (ptAt cs k) 2305843009213691579]
theorem cmTo_len (cs : List Int) : ∀ k, (cmTo cs k).length = k
  | 0 => rfl
  | k + 1 => by rw [cmTo, List.length_append, cmTo_len cs k]; rfl
def boxOf (cs ks : List Int) (n : Int) (i : Nat) : ByteArray := strOfNums (sealL (valZ cs (i + 1)) (powM (ptAt ks i) n 2305843009213691579).toNat i)
def bxTo (cs ks : List Int) (n : Int) : Nat → List ByteArray
  | 0 => []
  | k + 1 => bxTo cs ks n k ++ [boxOf cs ks n k]
theorem bxTo_len (cs ks : List Int) (n : Int) : ∀ k, (bxTo cs ks n k).length = k
  | 0 => rfl
  | k + 1 => by rw [bxTo, List.length_append, bxTo_len cs ks n k]; rfl
/-- What is dealt. -/
def dealZ (cs ks : List Int) (seed : ByteArray) : Dl := ⟨cmTo cs cs.length, powM 4 (scalarZ (ptS seed)) 2305843009213691579, bxTo cs ks (scalarZ (ptS seed)) ks.length⟩
def srowS (l : List ByteArray) : List Value := l.map Value.string
theorem srowS_append (a b : List ByteArray) : srowS (a ++ b) = srowS a ++ srowS b := by simp [srowS]
/-- The slices of a dealing, each in a block of its own from base on. -/
structure DlOwn (base : Nat) (W : World) (c0 c2 : Value) (d : Dl) : Prop where
  cm : W.ownsRow base 3 1 c0 d.cm.length (irow d.cm)
  bx : W.ownsRow base 9 1 c2 d.bx.length (srowS d.bx)
theorem own_base {w : World} {b b' e size n : Nat} {v : Value} {xs : List Value} (h : w.ownsRow b e size v n xs) (hb : b' ≤ b) : w.ownsRow b' e size v n xs := by
  refine ⟨h.1, ?_⟩
  rcases h.2 with hn | ⟨g, cap, cur, hv, hbb, rest⟩
  · exact .inl hn
  · exact .inr ⟨g, cap, cur, hv, Nat.le_trans hb hbb, rest⟩
def DealPost (w : World) (d : Dl) (e : Ending) (w' : World) : Prop := Only (fun _ => False) w w' ∧ ∃ c0 c2, e = .returned (.tuple #[.agg #[c0, .int .i64 d.pt, c2], .bool true]) ∧ DlOwn w.heap.size w' c0 c2 d
theorem Tryz.infoD : (Tryz.prog.info? 25).map (·.size) = some 3 := by kernel_rfl
theorem Tryz.infoS1 : (Tryz.prog.info? 9).map (fun i => (i.zero, i.size, i.bytes)) = some (some (.string ByteArray.empty), 1, 16) := by kernel_rfl
/-- The dealing that is being made: its commitments. -/
structure DealC (w wr : World) (Bd : Nat) (vc vb : Value) (L : List Int) (p : Int) (X : List ByteArray) : Prop where
  blk : wr.heap[Bd]? = some (.cells #[vc, .int .i64 p, vb] 25 (0, 0))
  own : wr.ownsRow (Bd + 1) 3 1 vc L.length (irow L)
  ownS : wr.ownsRow (Bd + 1) 9 1 vb X.length (srowS X)
  apart : ∀ g, vc.ownBlock = some g → vb.ownBlock ≠ some g
  low : w.heap.size ≤ Bd
  only : Only (fun _ => False) w wr
theorem own_low' {w : World} {base e size n : Nat} {v : Value} {xs : List Value} (h : w.ownsRow base e size v n xs) {k : Nat} (hk : v.ownBlock = some k) : base ≤ k := (own_lt h hk).2
theorem heap_set3 {w : World} {g : Nat} {a b c : Value} {t : TypeId} (h : w.heap[g]? = some (.cells #[a, b, c] t (0, 0))) (x : Value) : (w.setCell ⟨g, 0, none⟩ x).heap[g]? = some (.cells #[x, b, c] t (0, 0)) ∧ (w.setCell ⟨g, 2, none⟩ x).heap[g]? = some (.cells #[a, b, x] t (0, 0)) :=
  ⟨heap_setCell_same w g 0 _ t x h, heap_setCell_same w g 2 _ t x h⟩
theorem deal_start (w w1 : World) (p : Int) (hO : Only (fun _ => False) w w1) : DealC w (w1.alloc (.cells #[.slice none 0 0, .int .i64 p, .slice none 0 0] 25)) w1.heap.size (.slice none 0 0) (.slice none 0 0) [] p [] :=
  ⟨heap_alloc_last w1 _, World.ownsRow_nil _ _ _ _, World.ownsRow_nil _ _ _ _, fun g h => by simp [Value.ownBlock] at h, hO.size, hO.alloc _⟩
/-- One commitment more. -/
theorem DealC.commit {w wr w1 : World} {Bd k : Nat} {vc vb : Value} {L : List Int} {p z : Int} {X : List ByteArray} (h : DealC w wr Bd vc vb L p X) (hk : L.length = k) {g cap : Nat} {o : Obj}
    (hown : w1.ownsRow (Bd + 1) 3 1 (.slice (some ⟨g, 0, none⟩) (k + 1) cap) (k + 1) (irow L ++ [.int .i64 z])) (hg : ((wr.alloc o).drew).grownBy w1 vc.ownBlock) (hat : vc.ownBlock = some g ∨ g = wr.heap.size + 1) :
    w1.heap[Bd]? = some (.cells #[vc, .int .i64 p, vb] 25 (0, 0)) ∧ DealC w (w1.setCell ⟨Bd, 0, none⟩ (.slice (some ⟨g, 0, none⟩) (k + 1) cap)) Bd (.slice (some ⟨g, 0, none⟩) (k + 1) cap) vb (L ++ [z]) p X := by
  subst hk
  have hlt := (Array.getElem?_eq_some_iff.1 h.blk).1
  have hO0 : Only (fun _ => False) wr (wr.alloc o).drew := ((Only.refl _ wr).alloc o).drew
  have hO : Only (fun i => vc.ownBlock = some i) (wr.alloc o).drew w1 := (Only.refl _ _).grown hg (fun i e _ => e)
  have hne : vc.ownBlock ≠ some Bd := fun e => by have := own_low' h.own e; omega
  have hblk : w1.heap[Bd]? = some (.cells #[vc, .int .i64 p, vb] 25 (0, 0)) := (hO.block Bd (by have := hO0.size; omega) hne).trans ((hO0.block Bd hlt (fun h => h)).trans h.blk)
  have hgb : (Value.slice (some ⟨g, 0, none⟩) (L.length + 1) cap).ownBlock = some g := rfl
  have hgl : Bd + 1 ≤ g := own_low' hown hgb
  refine ⟨hblk, (heap_set3 hblk _).1, ?_, ?_, ?_, h.low, ?_⟩
  · rw [List.length_append, List.length_singleton, irow_append]
    exact ownsRow_setCell_other hown (by rw [hgb]; simp; omega) _
  · refine ownsRow_setCell_other (hO.owns (hO0.owns h.ownS (fun _ _ h => h)) (fun i hi e => h.apart i e hi)) (fun e => ?_) _
    have := own_low' h.ownS (show vb.ownBlock = some Bd from e); omega
  · intro i hi he
    rw [hgb] at hi
    obtain rfl : g = i := by simpa using hi
    rcases hat with hat | hat
    · exact h.apart g hat he
    · have := (own_lt h.ownS he).1; omega
  · refine ((h.only.trans hO0).trans' hO (fun i hi e => ?_)).setCell (.inr (by show w.heap.size ≤ Bd; exact h.low)) _
    have := own_low' h.own e; have := h.low; omega

/-- One box more. -/
theorem DealC.box {w wr wz w1 : World} {Bd k : Nat} {vc vb : Value} {L : List Int} {p : Int} {X : List ByteArray} {s : ByteArray} (h : DealC w wr Bd vc vb L p X) (hk : X.length = k) {g cap : Nat} (hO0 : Only (fun _ => False) wr wz)
    (hown : w1.ownsRow (Bd + 1) 9 1 (.slice (some ⟨g, 0, none⟩) (k + 1) cap) (k + 1) (srowS X ++ [.string s])) (hg : wz.grownBy w1 vb.ownBlock) (hat : vb.ownBlock = some g ∨ g = wz.heap.size) :
    w1.heap[Bd]? = some (.cells #[vc, .int .i64 p, vb] 25 (0, 0)) ∧ DealC w (w1.setCell ⟨Bd, 2, none⟩ (.slice (some ⟨g, 0, none⟩) (k + 1) cap)) Bd vc (.slice (some ⟨g, 0, none⟩) (k + 1) cap) L p (X ++ [s]) := by
  subst hk
  have hlt := (Array.getElem?_eq_some_iff.1 h.blk).1
  have hO : Only (fun i => vb.ownBlock = some i) wz w1 := (Only.refl _ _).grown hg (fun i e _ => e)
  have hne : vb.ownBlock ≠ some Bd := fun e => by have := own_low' h.ownS e; omega
  have hblk : w1.heap[Bd]? = some (.cells #[vc, .int .i64 p, vb] 25 (0, 0)) := (hO.block Bd (by have := hO0.size; omega) hne).trans ((hO0.block Bd hlt (fun h => h)).trans h.blk)
  have hgb : (Value.slice (some ⟨g, 0, none⟩) (X.length + 1) cap).ownBlock = some g := rfl
  have hgl : Bd + 1 ≤ g := own_low' hown hgb
  refine ⟨hblk, (heap_set3 hblk _).2, ?_, ?_, ?_, h.low, ?_⟩
  · refine ownsRow_setCell_other (hO.owns (hO0.owns h.own (fun _ _ h => h)) (fun i hi e => h.apart i hi e)) (fun e => ?_) _
    have := own_low' h.own (show vc.ownBlock = some Bd from e); omega
  · rw [List.length_append, List.length_singleton, srowS_append]
    exact ownsRow_setCell_other hown (by rw [hgb]; simp; omega) _
  · intro i hi he
    rw [hgb] at he
    obtain rfl : g = i := by simpa using he
    rcases hat with hat | hat
    · exact h.apart g hi hat
    · have := (own_lt h.own hi).1; have := hO0.size; omega
  · refine ((h.only.trans hO0).trans' hO (fun i hi e => ?_)).setCell (.inr (by show w.heap.size ≤ Bd; exact h.low)) _
    have := own_low' h.ownS e; have := h.low; omega
theorem strs_of_own {w : World} {base : Nat} {v : Value} {l : List ByteArray} (h : w.ownsRow base 9 1 v l.length (srowS l)) (_hm : l.length ≤ 9223372036854775807) : StrsAt w v l := by
  rcases h.2 with ⟨rfl, h0⟩ | ⟨g, cap, cur, rfl, hb, hg, hcap, hcap2, hsz, htk⟩
  · exact .inl ⟨none, 0, rfl, List.eq_nil_of_length_eq_zero h0⟩
  · refine .inr ⟨g, 0, cap, rfl, (Array.getElem?_eq_some_iff.1 hg).1, hcap, by unfold maxLen at hcap2; omega, fun j hj => ?_⟩
    rw [Nat.zero_add, cell_of_row w g j cur 9 (0, 0) hg]
    have h1 : (srowS l)[j]? = some (.string (sAt l j)) := by simp [srowS, sAt, List.getD, hj]
    rw [← h1, ← htk, List.getElem?_take_of_lt (by omega)]
    simp
theorem slice_one {w : World} {b1 e1 s1 n1 b2 e2 s2 n2 : Nat} {v u : Value} {xs ys : List Value} (h : w.ownsRow b1 e1 s1 v n1 xs) (h2 : w.ownsRow b2 e2 s2 u n2 ys) (p : Int) : (#[v, .int .i64 p, u] : Array Value).all (·.oneCell') = true := by
  obtain ⟨_, _, rfl⟩ := slice_of_own h
  obtain ⟨_, _, rfl⟩ := slice_of_own h2
  simp [Value.oneCell']
section
variable {P : Program}
/-- A struct and one slot come back. -/
theorem results_cell_tmp {fn : Func} {p q : Go.Tmp} {ty : TypeId} (h : fn.results = #[.cell p ty, .tmp q]) (tmps : Array Value) (w : World) (g : Nat) (t : TypeId) (cs : Array Value) (fr : Nat × Nat) (d : TypeDesc)
    (hp : tmps.getD p undef = .pointer (some ⟨g, 0, none⟩)) (hg : w.heap[g]? = some (.cells cs t fr))
    (hu : P.underlying ty = some d) (hd : (match d with | .struct _ | .array _ _ => true | _ => false) = true) (hi : (P.info? ty).map (·.size) = some cs.size) (v : Value) (hv : tmps.getD q undef = v) :
    (results fn tmps).run P w = .ok (.tuple #[.agg cs, v]) w := by
  subst hv
  have hp' : tmps[p]?.getD undef = .pointer (some ⟨g, 0, none⟩) := by simpa using hp
  simp [results, h, hp', asAddr, run_loadVar_row w g t ty cs fr d hg hu hd hi]
end
theorem DlOwn.at {base : Nat} {W : World} {c0 c2 : Value} {d : Dl} (h : DlOwn base W c0 c2 d) (h1 : d.cm.length ≤ 9223372036854775807) (h2 : d.bx.length ≤ 9223372036854775807) : DlAt W c0 (.int .i64 d.pt) c2 d := ⟨pts_of_own h.cm h1, rfl, strs_of_own h.bx h2⟩
theorem one_str (x : ByteArray) : ∀ v ∈ [Value.string x], v.oneCell' = true := by intro v hv; simp at hv; subst hv; rfl

end Go.Proofs.YtkpfachmakfncaaGreatDoor

namespace Go.Proofs.YtkpfachmakfncaaGreatDoor
open Go.RowKit

theorem foldl_upF' (g : Int → Nat → Int) (len : Nat) (s : Int) (r : Nat → Int) (h0 : r 0 = s) (hs : ∀ k, k < len → r (k + 1) = g (r k) k) : ∀ k, k ≤ len → (upF len k).foldl (fun s (i : Fin len) => g s i.1) s = r k := by
  intro k
  induction k with
  | zero => intro _; exact h0.symm
  | succ k ih => intro h; rw [upF_succ (by omega), List.foldl_append, ih (by omega), hs k (by omega)]; rfl
/-- The public value, as the reference computes it. -/
def atTo (cs : List Int) (x : Int) : Nat → Int
  | 0 => 1
  | k + 1 => atTo cs x k * powM (ptAt cs k) (pwQ x k) 2305843009213691579 % 2305843009213691579
theorem atZ_eq (cs : List Int) (x : Int) : atZ cs x = atTo cs x cs.length := by
  unfold atZ
  exact foldl_upF' (fun s i => s * powM (ptAt cs i) (pwQ x i) 2305843009213691579 % 2305843009213691579) cs.length 1 (atTo cs x) rfl (fun k _ => rfl) cs.length (Nat.le_refl _)
/-- The value, as the program computes it. -/
def vaTo (cs : List Int) (x : Int) : Nat → Int
  | 0 => 0
  | k + 1 => (vaTo cs x k + ptAt cs k * pwQ x k) % 1152921504606845789
def vaZ (cs : List Int) (x : Int) : Int := (upF cs.length cs.length).foldl (stepV cs x) 0
theorem vaZ_eq (cs : List Int) (x : Int) : vaZ cs x = vaTo cs x cs.length := by
  unfold vaZ
  exact foldl_upF' (fun s i => (s + ptAt cs i * pwQ x i) % 1152921504606845789) cs.length 0 (vaTo cs x) rfl (fun k _ => rfl) cs.length (Nat.le_refl _)
theorem vaTo_bd (cs : List Int) (x : Int) : ∀ k, 0 ≤ vaTo cs x k ∧ vaTo cs x k < 1152921504606845789
  | 0 => by unfold vaTo; decide
  | _ + 1 => emod_self_lt _ _ (by decide)
theorem pwQ_cong (x : Int) : ∀ k, Cong gQ (pwQ x k) (x ^ k)
  | 0 => Cong.of_eq (by rw [Int.pow_zero]; rfl)
  | k + 1 => by rw [pwQ, Int.pow_succ]; exact (Cong.mod gQ _).trans ((pwQ_cong x k).mul (Cong.refl _ _))
theorem ev_snoc (x y : Int) : ∀ a : List Int, ev (a ++ [y]) x = ev a x + y * x ^ a.length
  | [] => by simp [ev]
  | c :: a => by
    rw [List.cons_append, ev, ev_snoc x y a, ev, List.length_cons, Int.pow_succ]
    grind
theorem take_snocA (l : List Int) (k : Nat) (h : k < l.length) : l.take (k + 1) = l.take k ++ [ptAt l k] := by
  rw [List.take_add_one]; simp [ptAt, List.getD, h]
theorem vaTo_cong (cs : List Int) (x : Int) : ∀ k, k ≤ cs.length → Cong gQ (vaTo cs x k) (ev (cs.take k) x)
  | 0, _ => Cong.of_eq (by simp [vaTo, ev])
  | k + 1, h => by
    rw [vaTo, take_snocA cs k (by omega), ev_snoc, List.length_take, Nat.min_eq_left (by omega)]
    exact (Cong.mod gQ _).trans ((vaTo_cong cs x k (by omega)).add ((Cong.refl _ _).mul (pwQ_cong x k)))
/-- Both ways to compute a value agree. -/
theorem va_val (cs : List Int) (x : Int) : vaZ cs x = valZ cs x := by
  have hb := vaTo_bd cs x cs.length
  have hv := valZ_bd cs x
  have h := vaTo_cong cs x cs.length (Nat.le_refl _)
  rw [List.take_length] at h
  rw [vaZ_eq]
  exact (h.trans (valZ_cong cs x).symm).eq hb.1 hb.2 hv.1 hv.2
/-- Powers of one base: exponents add, and multiply. -/
theorem powAddQ {a x y : Int} (h : memB a = true) (hx : 0 ≤ x) (hx2 : x < 1152921504606845789) (hy : 0 ≤ y) (hy2 : y < 1152921504606845789) : powM a x 2305843009213691579 * powM a y 2305843009213691579 % 2305843009213691579 = powM a ((x + y) % 1152921504606845789) 2305843009213691579 := by
  have hin := ((memB_iff a).1 h).2.2
  have hz := emod_self_lt (x + y) 1152921504606845789 (by decide)
  have h1 := powM_cong a x 2305843009213691579 hx (by omega)
  have h2 := powM_cong a y 2305843009213691579 hy (by omega)
  have h3 := powM_cong a ((x + y) % 1152921504606845789) 2305843009213691579 hz.1 (by omega)
  have h4 := hin.exp (x.toNat + y.toNat)
  have e : (x.toNat + y.toNat) % 1152921504606845789 = ((x + y) % 1152921504606845789).toNat := by omega
  rw [e, Int.pow_add] at h4
  have hc : Cong 2305843009213691579 (powM a x 2305843009213691579 * powM a y 2305843009213691579) (powM a ((x + y) % 1152921504606845789) 2305843009213691579) := (h1.mul h2).trans (Cong.trans (show Cong 2305843009213691579 _ _ from h4) h3.symm)
  rw [hc.emod]
  have hb := powM_bd a ((x + y) % 1152921504606845789) 2305843009213691579 (by decide)
  exact Int.emod_eq_of_lt hb.1 hb.2
theorem powPowQ {a x y : Int} (h : memB a = true) (hx : 0 ≤ x) (hx2 : x < 1152921504606845789) (hy : 0 ≤ y) (hy2 : y < 1152921504606845789) : powM (powM a x 2305843009213691579) y 2305843009213691579 = powM a (x * y % 1152921504606845789) 2305843009213691579 := by
  have hin := ((memB_iff a).1 h).2.2
  have hz := emod_self_lt (x * y) 1152921504606845789 (by decide)
  have h1 := powM_cong (powM a x 2305843009213691579) y 2305843009213691579 hy (by omega)
  have h2 := cong_pow (powM_cong a x 2305843009213691579 hx (by omega)) y.toNat
  have h3 := powM_cong a (x * y % 1152921504606845789) 2305843009213691579 hz.1 (by omega)
  have h4 := hin.exp (x.toNat * y.toNat)
  have e : (x.toNat * y.toNat) % 1152921504606845789 = (x * y % 1152921504606845789).toNat := by
    obtain ⟨b, rfl⟩ := Int.eq_ofNat_of_zero_le hx
    obtain ⟨c, rfl⟩ := Int.eq_ofNat_of_zero_le hy
    simp only [Int.toNat_natCast]
    rw [← Int.natCast_mul, show (1152921504606845789 : Int) = ((1152921504606845789 : Nat) : Int) from rfl, ← Int.natCast_emod, Int.toNat_natCast]
  rw [e, Int.pow_mul] at h4
  have hc : Cong 2305843009213691579 (powM (powM a x 2305843009213691579) y 2305843009213691579) (powM a (x * y % 1152921504606845789) 2305843009213691579) := (h1.trans h2).trans (Cong.trans (show Cong 2305843009213691579 _ _ from h4) h3.symm)
  have hb := powM_bd a (x * y % 1152921504606845789) 2305843009213691579 (by decide)
  have hb1 := powM_bd (powM a x 2305843009213691579) y 2305843009213691579 (by decide)
  exact hc.eq hb1.1 hb1.2 hb.1 hb.2
theorem cmTo_at' (cs : List Int) : ∀ k j, j < k → ptAt (cmTo cs k) j = powM 4 (ptAt cs j) 2305843009213691579
  | k + 1, j, h => by
    rw [cmTo, ptAt_append, cmTo_len]
    by_cases e : j < k
    · rw [if_pos e, cmTo_at' cs k j e]
    · obtain rfl : j = k := by omega
      rw [if_neg e, if_pos rfl]
theorem at_step (C : List Int) (x : Int) (hC : ∀ j, 0 ≤ ptAt C j ∧ ptAt C j < 1152921504606845789) : ∀ k, k ≤ C.length → atTo (cmTo C C.length) x k = powM 4 (vaTo C x k) 2305843009213691579
  | 0, _ => by rw [atTo, vaTo]; kernel_rfl
  | k + 1, h => by
    have hb := vaTo_bd C x k
    have hp := pwQ_bd x k
    have hc := hC k
    have hm := emod_self_lt (ptAt C k * pwQ x k) 1152921504606845789 (by decide)
    rw [atTo, at_step C x hC k (by omega), cmTo_at' C _ k (by omega), powPowQ mem_four hc.1 hc.2 hp.1 hp.2, powAddQ mem_four hb.1 hb.2 hm.1 hm.2, vaTo, add_res]
/-- P7.1: commitments at x are the power with the value at x. -/
theorem at_law (C : List Int) (x : Int) (hC : ∀ j, 0 ≤ ptAt C j ∧ ptAt C j < 1152921504606845789) : atZ (cmTo C C.length) x = powM 4 (valZ C x) 2305843009213691579 := by
  rw [atZ_eq, cmTo_len, at_step C x hC _ (Nat.le_refl _), ← vaZ_eq, va_val]
end Go.Proofs.YtkpfachmakfncaaGreatDoor

namespace Go.Proofs.YtkpfachmakfncaaGreatDoor
open Go.RowKit

end Go.Proofs.YtkpfachmakfncaaGreatDoor

namespace Go.Proofs.YtkpfachmakfncaaGreatDoor
open Go.RowKit Go.Shelf
attribute [local go_sem] Oper.semAt_some

theorem val_round {w W : World} {n : Nat} {u sv : Value} {r z : Int} (hc5 : W.cell? ⟨n + 1, 0, none⟩ = some u) (hf5 : W.frozen? ⟨n + 1, 0, none⟩ = false) (hc2 : W.cell? ⟨n, 0, none⟩ = some sv) (hB : Below n w W) (hsz : n ≤ W.heap.size) (h4l : n + 1 < W.heap.size) (hz : r = z) :
    KeepsOthers W (W.setCell ⟨n + 1, 0, none⟩ (.int .i64 z)).drew ∧ KeepX (n + 1 + 1 + 1) W (W.setCell ⟨n + 1, 0, none⟩ (.int .i64 z)).drew ∧
      (((W.setCell ⟨n + 1, 0, none⟩ (.int .i64 z)).drew.cell? ⟨n + 1, 0, none⟩ = some (.int .i64 r) ∧ (W.setCell ⟨n + 1, 0, none⟩ (.int .i64 z)).drew.frozen? ⟨n + 1, 0, none⟩ = false) ∧
        (W.setCell ⟨n + 1, 0, none⟩ (.int .i64 z)).drew.cell? ⟨n, 0, none⟩ = some sv) ∧ Below n w (W.setCell ⟨n + 1, 0, none⟩ (.int .i64 z)).drew := by
  subst hz
  have hO : Only (fun k => k = n + 1) W (W.setCell ⟨n + 1, 0, none⟩ (.int .i64 r)).drew := ((Only.refl (fun k => k = n + 1) W).setCell (p := ⟨n + 1, 0, none⟩) (.inl rfl) _).drew
  have hO1 : Only (fun _ => False) (W.setCell ⟨n + 1, 0, none⟩ (.int .i64 r)) (W.setCell ⟨n + 1, 0, none⟩ (.int .i64 r)).drew := (Only.refl _ _).drew
  refine ⟨(KeepsOthers.setCell _ _ _).trans (KeepsOthers.drew _), fun v hv => hO.cell hv (by simp; omega), ⟨⟨hO1.cell (World.cell?_setCell_same' _ _ _ (by rw [hc5]; rfl)) id, ?_⟩, hO.cell hc2 (by simp)⟩, hB.trans (hO.below hsz (fun i hi e => by omega))⟩
  exact (World.frozen?_of_block (hO1.block (n + 1) (by simpa [World.setCell] using h4l) id)).trans (by rw [World.frozen?_setCell]; exact hf5)

set_option maxRecDepth 100000 in
set_option maxHeartbeats 2000000 in
theorem value_any (sv : Value) (cs : List Int) (x : Int) (w : World) (hI : PtsAt w.heap.size w sv cs) (hlen : cs.length ≤ 9223372036854775807) :
    Calls Tryz.prog 21 #[sv, .int .i64 x] w fun e W' => e = .returned (.int .i64 (vaZ cs x)) ∧ Below w.heap.size w W' := by
  obtain ⟨a0, c0, rfl⟩ := hI.slice
  refine (callsIn_wide (n := 5)).1 ?_
  refine callsIn_of_wp_marks Tryz.func21 rfl trivial ?_ rfl
  simp only [Tryz.ntmps21, List.size_toArray, List.length_cons, List.length_nil, Nat.reduceAdd, Nat.reduceSub, Array.replicate_succ, Array.replicate_zero, List.push_toArray, List.append_toArray, List.nil_append, List.cons_append]
  have HI := Lib.hid hI
  clear hI
  gi_wp2_with fail
  refine ⟨trivial, (callsIn_wide.2 (powers_any cs.length x _)).mono ?_⟩
  rintro e w' ⟨rfl, rfl⟩
  have HB0 := Lib.hid (show Below w.heap.size w ((((w.alloc (.cells #[.slice a0 cs.length c0] 22)).alloc (.cells #[.int .i64 0] 3)).alloc (.cells #[.int .i64 cs.length] 3)).alloc (.cells #[.int .i64 x] 3)) from ((((Below.refl _ w).alloc (Nat.le_refl _) _).alloc (by simp) _).alloc (by simp; omega) _).alloc (by simp; omega) _)
  have b2 := Boxed.new w 22 (.slice a0 cs.length c0)
  have b5 := Boxed.new (w.alloc (.cells #[.slice a0 cs.length c0] 22)) 3 (.int .i64 0)
  have b6 := Boxed.new ((w.alloc (.cells #[.slice a0 cs.length c0] 22)).alloc (.cells #[.int .i64 0] 3)) 3 (.int .i64 cs.length)
  have b7 := Boxed.new (((w.alloc (.cells #[.slice a0 cs.length c0] 22)).alloc (.cells #[.int .i64 0] 3)).alloc (.cells #[.int .i64 cs.length] 3)) 3 (.int .i64 x)
  simp only [World.size_alloc] at b5 b6 b7
  have HB2 := Lib.hid (((b2.alloc (.cells #[.int .i64 0] 3)).alloc (.cells #[.int .i64 cs.length] 3)).alloc (.cells #[.int .i64 x] 3)).cell
  have HB5 := Lib.hid ((b5.alloc (.cells #[.int .i64 cs.length] 3)).alloc (.cells #[.int .i64 x] 3))
  have HB6 := Lib.hid (b6.alloc (.cells #[.int .i64 x] 3)).cell
  have HB7 := Lib.hid b7.cell
  clear b2 b5 b6 b7
  gi_wp2
  refine wpIn_rangeFunc_ownF rfl (by decide) (gf := 69) (lb := #[.pointer (some ⟨w.heap.size + 1 + 1, 0, none⟩), .pointer (some ⟨w.heap.size + 1 + 1 + 1, 0, none⟩)]) rfl trivial (enters_of Tryz.func69 (by kernel_rfl) rfl)
    (powers_stops (5 - 1) (by decide) (w.heap.size + 1 + 1) (w.heap.size + 1 + 1 + 1) cs.length x _ hlen (by simp) (by simp) HB6.out HB7.out) keepX_t (keepX_b (by simp)) (Below.refl _ _) (fun _ => rfl)
    (fun pre W => ((W.cell? ⟨w.heap.size + 1, 0, none⟩ = some (.int .i64 (pre.foldl (stepV cs x) 0)) ∧ W.frozen? ⟨w.heap.size + 1, 0, none⟩ = false) ∧ W.cell? ⟨w.heap.size, 0, none⟩ = some (.slice a0 cs.length c0)) ∧ Below w.heap.size w W)
    (fun _ _ _ => False)
    (OwnFrom.and (Own.from (fun s A B row hs hg hr => ⟨⟨cell_kept hs.1.1 hg hr, (frozen_kept hs.1.1 hg hr).trans hs.1.2⟩, cell_kept hs.2 hg hr⟩) _) (ownFrom_below (Nat.le_refl _) (by simp; omega)))
    (fun _ _ _ _ _ hs _ _ => hs)
    ⟨⟨⟨HB5.out.cell, HB5.out.frozen⟩, HB2.out⟩, HB0.out⟩
    (fun y => { tmps := #[.slice a0 cs.length c0, .int .i64 x, .pointer (some ⟨w.heap.size, 0, none⟩), undef, .int .i64 0, .pointer (some ⟨w.heap.size + 1, 0, none⟩), .int .i64 (y.1 : Int), .int .i64 (pwQ x y.1), .slice a0 cs.length c0, .int .i64 cs.length, .int .i64 x, .func (.func 69) #[] #[.pointer (some ⟨w.heap.size + 1 + 1, 0, none⟩), .pointer (some ⟨w.heap.size + 1 + 1 + 1, 0, none⟩)], .int .i64 (y.1 : Int), .int .i64 (pwQ x y.1), undef, undef, undef, undef, undef, undef, undef, undef, undef], defers := [] }) ?assign ?body ?done ?stop
  case assign =>
    intro l x W K hK
    gi_wp2
    exact hK
  case body =>
    clear HB0 HB2 HB5 HB6 HB7
    rintro l pre y W ⟨⟨⟨hc5, hf5⟩, hc2⟩, hB⟩ _
    have hpw := pwQ_bd x y.1
    have hsz := hB.size
    have h4l := World.block_lt_of_cell? W _ hc5
    obtain ⟨b, off, rfl, hb, hl0, hcap1, hcap2, hce⟩ := (PtsAt.mono hsz (HI.out.below hB)).cellAt y.2
    have HST := Lib.hid (foldl_snoc (stepV cs x) 0 pre y)
    obtain ⟨acc, hacc⟩ : ∃ acc, pre.foldl (stepV cs x) 0 = acc := ⟨_, rfl⟩
    have HSX := Lib.hid (show stepV cs x acc y = (acc + ptAt cs y.1 * pwQ x y.1) % 1152921504606845789 from rfl)
    rw [hacc] at hc5
    have HACC := Lib.hid hacc
    clear hacc
    obtain ⟨yn, hy⟩ := y
    dsimp only at hpw hce HSX ⊢
    generalize pwQ x yn = pw at *
    generalize ptAt cs yn = v at *
    clear hpw hl0
    have i1 : (yn : Int) < cs.length := by omega
    have i2 : 0 ≤ (yn : Int) := by omega
    have hmx : Tryz.prog.follows .mixedOrders = true := by kernel_rfl
    gi_wp2
    gi_region_with_o (first
      | (refine ⟨trivial, ?_⟩; gi_at_call 48; refine (CallsIn.inRound l (callsIn_wide.2 (mul_any v pw 1152921504606845789 _ (by decide) (by decide)))).mono ?_; rintro e w' ⟨rfl, rfl⟩)
      | (refine ⟨trivial, ?_⟩; gi_at_call 44; refine (CallsIn.inRound l (callsIn_wide.2 (add_any acc (v * pw % 1152921504606845789) 1152921504606845789 _ (by decide) (by decide)))).mono ?_; rintro e w' ⟨rfl, rfl⟩))
    all_goals (clear hmx i1 i2 hce hcap1 hcap2 hb HI)
    all_goals gi_wp2
    all_goals exact val_round hc5 hf5 hc2 hB hsz h4l (by rw [HST.out, HACC.out, HSX.out])
  case done =>
    rintro D ys W hD rfl ⟨⟨⟨hc4, _⟩, _⟩, hB⟩ hK
    gi_wp2
    refine ⟨by simp, .inl ⟨_, _, rfl, run_takeDeferred hK, ?_⟩⟩
    exact ⟨_, results_tmp rfl _ _ _, rfl, hB.trans (belowK_b (w := w) (Nat.le_refl _) W D _ _ (by simp at hD; omega) hK rfl rfl)⟩
  case stop =>
    rintro D c pre W _ _ h _
    exact h.elim
theorem pvalue_any (sv : Value) (cs : List Int) (x : Int) (w : World) (hI : PtsAt w.heap.size w sv cs) (hlen : cs.length ≤ 9223372036854775807) :
    Calls Tryz.prog 21 #[sv, .int .i64 x] w fun e w' => e = .returned (.int .i64 (valZ cs x)) ∧ Only (fun _ => False) w w' := by
  rw [← va_val]
  exact (value_any sv cs x w hI hlen).mono fun _ _ h => ⟨h.1, Only.ofBelow h.2 _⟩
end Go.Proofs.YtkpfachmakfncaaGreatDoor
