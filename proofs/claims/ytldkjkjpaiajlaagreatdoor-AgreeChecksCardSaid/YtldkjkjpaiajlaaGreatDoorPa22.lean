/-
  Rules: the line bar.
  Rules: the table of what reads a line.
  Rules: the program's parts.
  Rules, plain: a text line by line.
  Rules: the program's reader of a text.
  Rules: the program's Parse.
  Rules: the program's Parse.
  Rules: which draws are right (plain); the program's inRange and owns.
  Rules: the program's owns.
  Rules, plain: a text cut at a byte; numerals and their numbers; the lines of a draw.
  Rules, plain: what is read is right, and its text is the text that was read.
  Rules, plain: the text of a right draw is read as this draw; the length of such a text; Print.
  Rules, the reference's numbers: Parse; numeral and amount.
  Rules: slices.ContainsFunc over tiers, places, quotas with the closures of rightLists.
  Rules: the program's rightLists.
  Rules: the listed variables; the program's text and right.
-/
import Derived.Test.YtldkjkjpaiajlaaGreatDoorPa18
import Derived.Test.YtldkjkjpaiajlaaGreatDoorPa12
import Derived.Maps.OwnSet
import Derived.StringKeys
import Derived.Lib.IndexLaws
import Derived.Lib.IndexBytes
import Derived.Deep.LoopGhost
import Derived.Deep.RegionHeld3
import Derived.Defers
import Derived.Deep.RegionHeld
import Derived.Recover
import Derived.Deep.DeepCutAuto
import Derived.Deep.CutBlock
import Derived.Test.YtldkjkjpaiajlaaGreatDoorPa17
import Derived.Lib.ItoaLen
namespace Go.Proofs.YtldkjkjpaiajlaaGreatDoor
open Go.RowKit

theorem newsR' (w : World) (cs : List Value) (T : TypeId) : ∀ j u, cs[j]? = some u → ((w.alloc (.cells cs.toArray T))).cell? ((⟨w.heap.size, 0, none⟩ : Addr).add j) = some u := by
  have h : ((w.alloc (.cells cs.toArray T))).heap[w.heap.size]? = some (.cells cs.toArray T) := heap_alloc_last w (.cells cs.toArray T)
  intro j u hu
  exact World.news_of_block h j u (by simpa using hu)
end Go.Proofs.YtldkjkjpaiajlaaGreatDoor

namespace Go.Proofs.YtldkjkjpaiajlaaGreatDoor
open Go.RowKit Go.Maps

theorem Tryz.keyS : Keyed Tryz.prog 9 := string_keyed Tryz.underlying9
end Go.Proofs.YtldkjkjpaiajlaaGreatDoor

namespace Go.Proofs.YtldkjkjpaiajlaaGreatDoor
open Go.RowKit

/-- The library's variable that strings.Split reads. -/
def LenR (w : World) : Prop := ∃ m, w.cell? ⟨2, 0, none⟩ = some (.int .i64 m)
theorem LenR.only {S : Nat → Prop} {a b : World} (h : LenR a) (hO : Only S a b) (hS : ¬ S 2) : LenR b := by
  obtain ⟨m, hm⟩ := h
  exact ⟨m, hO.cell hm hS⟩
end Go.Proofs.YtldkjkjpaiajlaaGreatDoor

namespace Go.Proofs.YtldkjkjpaiajlaaGreatDoor
open Go.RowKit

end Go.Proofs.YtldkjkjpaiajlaaGreatDoor

namespace Go.Proofs.YtldkjkjpaiajlaaGreatDoor
open Go.RowKit Go.Maps

section
variable {ops : Array Oper} {rest : List Oper} {o : Oper} {a : Act} {Q : Exit → Act → World → Prop}
end
end Go.Proofs.YtldkjkjpaiajlaaGreatDoor

namespace Go.Proofs.YtldkjkjpaiajlaaGreatDoor
open Go.RowKit

end Go.Proofs.YtldkjkjpaiajlaaGreatDoor

namespace Go.Proofs.YtldkjkjpaiajlaaGreatDoor
open Go.RowKit

end Go.Proofs.YtldkjkjpaiajlaaGreatDoor

namespace Go.Proofs.YtldkjkjpaiajlaaGreatDoor
open Go.RowKit

def rgB (z : Int) : Bool := decide (0 ≤ z) && decide (z ≤ 1000000000)
def lotE (d : Dr) : Bool := d.pool == 0 && d.pick == 0 && decide (d.tiers.length = 0) && !d.roll
def balE (d : Dr) : Bool := d.cls == 0 && decide (d.places.length = 0)
def panE (d : Dr) : Bool := d.size == 0 && decide (d.quotas.length = 0)
def ownsZ (d : Dr) : Bool := if d.kind = 1 then balE d && panE d else if d.kind = 2 then lotE d && panE d else if d.kind = 3 then lotE d && balE d else false
def tierOk (l : List (Int × Int)) (i : Nat) : Bool := rgB (tAt l i).1 && rgB (tAt l i).2 && !hasTier (l.take i) (tAt l i).1
def placeOk (l : List (ByteArray × Int)) (i : Nat) : Bool := nameB (pAt l i).1 && rgB (pAt l i).2 && !hasPlace (l.take i) (pAt l i).1
def quotaOk (l : List (ByteArray × Int × Int)) (i : Nat) : Bool := nameB (qAt l i).1 && rgB (qAt l i).2.1 && rgB (qAt l i).2.2 && !hasQuota (l.take i) (qAt l i).1
def barOk (l : List Int) (i : Nat) : Bool := !hasBar (l.take i) (ptAt l i)
end Go.Proofs.YtldkjkjpaiajlaaGreatDoor

namespace Go.Proofs.YtldkjkjpaiajlaaGreatDoor
open Go.RowKit

end Go.Proofs.YtldkjkjpaiajlaaGreatDoor

namespace Go.Proofs.YtldkjkjpaiajlaaGreatDoor
open Go.RowKit

/-- The pieces of a list between bytes c. -/
def cutC (c : UInt8) : List UInt8 → List (List UInt8)
  | [] => [[]]
  | x :: r => if x = c then [] :: cutC c r else (x :: (cutC c r).headD []) :: (cutC c r).tail
theorem cutC_ne (c : UInt8) : ∀ l, cutC c l ≠ []
  | [] => by simp [cutC]
  | x :: r => by unfold cutC; split <;> simp
theorem head_tail {α : Type} {d : α} : ∀ {l : List α}, l ≠ [] → l.headD d :: l.tail = l
  | [], h => absurd rfl h
  | _ :: _, _ => rfl
theorem cutC_eq {c : UInt8} {r : List UInt8} : cutC c (c :: r) = [] :: cutC c r := by
  show (if c = c then _ else _) = _
  rw [if_pos rfl]
theorem cutC_neq {c x : UInt8} {r : List UInt8} (h : x ≠ c) : cutC c (x :: r) = (x :: (cutC c r).headD []) :: (cutC c r).tail := by
  show (if x = c then _ else _) = _
  rw [if_neg h]
theorem cutC_free {c : UInt8} : ∀ {x : List UInt8}, noC c x → cutC c x = [x]
  | [], _ => rfl
  | a :: x, h => by
    rw [cutC_neq (h a List.mem_cons_self), cutC_free (fun b hb => h b (List.mem_cons_of_mem _ hb))]; rfl
theorem cutC_app {c : UInt8} {r : List UInt8} : ∀ {x : List UInt8}, noC c x → cutC c (x ++ c :: r) = x :: cutC c r
  | [], _ => cutC_eq
  | a :: x, h => by
    rw [List.cons_append, cutC_neq (h a List.mem_cons_self), cutC_app (fun b hb => h b (List.mem_cons_of_mem _ hb))]; rfl
theorem cutC_flat {c : UInt8} : ∀ {out : List (List UInt8)} {x : List UInt8}, (∀ l ∈ out, noC c l) → noC c x → cutC c (out.flatMap (· ++ [c]) ++ x) = out ++ [x]
  | [], x, _, hx => cutC_free hx
  | o :: out, x, h, hx => by
    rw [List.flatMap_cons, List.append_assoc, List.append_assoc, List.singleton_append, cutC_app (h o List.mem_cons_self), cutC_flat (fun l hl => h l (List.mem_cons_of_mem _ hl)) hx]; rfl
theorem cutC_noC (c : UInt8) : ∀ l, ∀ p ∈ cutC c l, noC c p
  | [], p, h => by rw [List.mem_singleton.1 h]; intro b hb; cases hb
  | x :: r, p, h => by
    have ih := cutC_noC c r
    by_cases hx : x = c
    · subst hx
      rw [cutC_eq] at h
      rcases List.mem_cons.1 h with rfl | h
      · intro b hb; cases hb
      · exact ih p h
    · rw [cutC_neq hx] at h
      have e := head_tail (d := []) (cutC_ne c r)
      rcases List.mem_cons.1 h with rfl | h
      · intro b hb
        rcases List.mem_cons.1 hb with rfl | hb
        · exact hx
        · exact ih _ (by rw [← e]; exact List.mem_cons_self) b hb
      · exact ih p (by rw [← e]; exact List.mem_cons_of_mem _ h)
theorem joinT_cons (c : UInt8) (x : List UInt8) (r : List (List UInt8)) : Lib.joinTail [c] (x :: r) = c :: (x ++ Lib.joinTail [c] r) := by simp [Lib.joinTail]
theorem cutC_join (c : UInt8) : ∀ l, Lib.join (cutC c l) [c] = l
  | [] => rfl
  | x :: r => by
    have ih := cutC_join c r
    have e := head_tail (d := []) (cutC_ne c r)
    by_cases hx : x = c
    · subst hx
      rw [cutC_eq, Lib.join_cons, List.nil_append, ← e, joinT_cons, ← Lib.join_cons, e, ih]
    · rw [cutC_neq hx, Lib.join_cons, List.cons_append, ← Lib.join_cons, e, ih]
theorem words_cut (s : ByteArray) : (wordsB s).map (·.data.toList) = cutC 32 s.data.toList := by
  have e := head_tail (d := []) (cutC_ne 32 s.data.toList)
  rw [← e]
  exact words_of s _ _ (fun l hl => cutC_noC 32 _ l (by rw [← e]; exact hl)) (by rw [e, cutC_join])
theorem arr_list (b : ByteArray) : (⟨b.data.toList.toArray⟩ : ByteArray) = b := by obtain ⟨⟨l⟩⟩ := b; rfl
theorem words_eq (s : ByteArray) : wordsB s = (cutC 32 s.data.toList).map (fun l => (⟨l.toArray⟩ : ByteArray)) := by
  rw [← words_cut, List.map_map]
  exact (List.map_id'' (fun b => arr_list b) _).symm
/-- A line of words. -/
def lineW (ws : List ByteArray) : List UInt8 := Lib.join (ws.map (·.data.toList)) [32]
/-! Numerals. -/
def decW (n : Int) : ByteArray := decB n.toNat
theorem byte_at {s : ByteArray} {j : Nat} (h : j < s.data.toList.length) : byteZ s j = (s.data.toList[j].toNat : Int) := by
  unfold byteZ
  rw [List.getD_eq_getElem?_getD, List.getElem?_eq_getElem h]; rfl
theorem decFold_snoc (l : List UInt8) (c : UInt8) (a : Nat) : decFold a (l ++ [c]) = decFold a l * 10 + (c.toNat - 48) := by
  unfold decFold; rw [List.foldl_append]; rfl
theorem digs_head (u : Nat) (h : 10 ≤ u) : (Lib.decDigits u).head? ≠ some 48 := by
  induction u using Nat.strongRecOn with
  | _ u ih =>
    rw [Lib.decDigits, dif_neg (by omega)]
    obtain ⟨c, r, hc, _⟩ := digs_cons (u / 10)
    by_cases h2 : 10 ≤ u / 10
    · have := ih (u / 10) (by omega) h2
      rw [hc] at this ⊢
      exact this
    · rw [Lib.decDigits, dif_pos (by omega)]
      show some _ ≠ _
      intro e
      have e := congrArg UInt8.toNat (Option.some.inj e)
      rw [dig_val (by omega)] at e
      have : (48 : UInt8).toNat = 48 := rfl
      omega
theorem dec_data (n : Int) : (decW n).data.toList = Lib.decDigits n.toNat := rfl
theorem dec_num (n : Int) : numB (decW n) = true := by
  have e : (decW n).data.toList.length = (decW n).size := Array.length_toList
  have hd := digs_range n.toNat
  obtain ⟨c, r, hc, c0, c1⟩ := digs_cons n.toNat
  rw [dec_data] at e
  have h1 : 1 ≤ (decW n).size := by rw [← e, hc]; simp
  rw [num_ofZ h1]
  · rw [List.all_eq_true]
    intro j hj
    have hj2 : j < (decW n).data.toList.length := by rw [dec_data, e]; exact List.mem_range.1 hj
    have h2 := hd _ (List.getElem_mem hj2)
    unfold dgOk
    rw [byte_at hj2, Bool.and_eq_true, decide_eq_true_eq, decide_eq_true_eq]
    omega
  · by_cases h2 : n.toNat < 10
    · left
      rw [← e, Lib.decDigits, dif_pos h2]; rfl
    · right
      intro h3
      apply digs_head n.toNat (by omega)
      unfold byteZ at h3
      rw [dec_data, hc] at h3
      rw [hc]
      simp only [List.getD_cons_zero] at h3
      rw [List.head?_cons]
      congr 1
      apply UInt8.toNat_inj.1
      show c.toNat = 48
      omega
/-! The lines of a draw. -/
def tierL (x : Int × Int) : List ByteArray := [kTier, decW x.1, decW x.2]
def placeL (x : ByteArray × Int) : List ByteArray := [kPlace, x.1, decW x.2]
def quotaL (x : ByteArray × Int × Int) : List ByteArray := [kQuota, x.1, decW x.2.1, decW x.2.2]
def barL (x : Int) : List ByteArray := [kBar, decW x]
def rollL (b : Bool) : List (List ByteArray) := if b = true then [[kRoll]] else []
def restL (d : Dr) : List (List ByteArray) := d.tiers.map tierL ++ (rollL d.roll ++ (d.places.map placeL ++ (d.quotas.map quotaL ++ d.barred.map barL)))
end Go.Proofs.YtldkjkjpaiajlaaGreatDoor

namespace Go.Proofs.YtldkjkjpaiajlaaGreatDoor
open Go.RowKit

structure Right (d : Dr) : Prop where
  owns : ownsZ d = true
  name : nameB d.name = true
  round : rgB d.round = true
  price : rgB d.price = true
  pool : rgB d.pool = true
  pick : rgB d.pick = true
  cls : rgB d.cls = true
  size : rgB d.size = true
  t12 : d.tiers.length ≤ 12
  p12 : d.places.length ≤ 12
  q12 : d.quotas.length ≤ 12
  b40 : d.barred.length ≤ 40
  tiers : ∀ i, i < d.tiers.length → tierOk d.tiers i = true
  places : ∀ i, i < d.places.length → placeOk d.places i = true
  quotas : ∀ i, i < d.quotas.length → quotaOk d.quotas i = true
  bars : ∀ i, i < d.barred.length → barOk d.barred i = true
  barR : ∀ x ∈ d.barred, rgB x = true
/-- A draw whose lists are empty. -/
structure Bare (d : Dr) : Prop where
  tiers : d.tiers = []
  roll : d.roll = false
  places : d.places = []
  quotas : d.quotas = []
  barred : d.barred = []
theorem Bare.rest {d : Dr} (h : Bare d) : restL d = [] := by
  unfold restL rollL
  rw [h.tiers, h.roll, h.places, h.quotas, h.barred]; rfl
end Go.Proofs.YtldkjkjpaiajlaaGreatDoor

namespace Go.Proofs.YtldkjkjpaiajlaaGreatDoor
open Go.RowKit

theorem take_snocU {α : Type} {l : List α} {k : Nat} (h : k < l.length) : l.take (k + 1) = l.take k ++ [l[k]] := List.take_succ_eq_append_getElem h
/-! Lengths. -/
end Go.Proofs.YtldkjkjpaiajlaaGreatDoor

namespace Go.Proofs.YtldkjkjpaiajlaaGreatDoor
open Go.RowKit

theorem nat0 : natB 0 = ⟨#[]⟩ := by unfold natB; rw [beL_zero]
theorem decFold_lt : ∀ (n : Nat) (l : List UInt8), l.length = n → (∀ b ∈ l, 48 ≤ b.toNat ∧ b.toNat ≤ 57) → decFold 0 l < 10 ^ n
  | 0, l, hl, _ => by rw [List.length_eq_zero_iff.1 hl]; decide
  | n + 1, l, hl, h => by
    have hne : l ≠ [] := by intro e; rw [e] at hl; cases hl
    have e := List.dropLast_concat_getLast hne
    have ih := decFold_lt n l.dropLast (by rw [List.length_dropLast]; omega) (fun b hb => h b (List.dropLast_subset l hb))
    have hc := h _ (List.getLast_mem hne)
    rw [← e, decFold_snoc, Nat.pow_succ]
    omega
theorem decFold_size {l : List UInt8} (h : ∀ b ∈ l, 48 ≤ b.toNat ∧ b.toNat ≤ 57) : (natB (decFold 0 l)).size ≤ l.length := by
  rw [natB_size]
  exact beL_len (Nat.lt_of_lt_of_le (decFold_lt _ l rfl h) (Nat.pow_le_pow_left (by decide) _))
/-- The digits of the first k bytes. -/
def digK (s : ByteArray) (k : Nat) : Prop := ∀ b ∈ s.data.toList.take k, 48 ≤ b.toNat ∧ b.toNat ≤ 57
theorem digK_succ {s : ByteArray} {k : Nat} (h : digK s k) (hk : k < s.size) (h0 : 48 ≤ byteZ s k) (h1 : byteZ s k ≤ 57) : digK s (k + 1) := by
  have e : s.data.toList.length = s.size := Array.length_toList
  intro b hb
  rw [take_snocU (by omega)] at hb
  rcases List.mem_append.1 hb with hb | hb
  · exact h b hb
  · rw [List.mem_singleton.1 hb]
    rw [byte_at (by omega)] at h0 h1
    omega
theorem digK_fold {s : ByteArray} {k : Nat} (hk : k < s.size) (h0 : 48 ≤ byteZ s k) : decFold 0 (s.data.toList.take (k + 1)) = decFold 0 (s.data.toList.take k) * 10 + (byteZ s k - 48).toNat := by
  have e : s.data.toList.length = s.size := Array.length_toList
  rw [byte_at (by omega)] at h0
  rw [take_snocU (by omega), decFold_snoc, byte_at (by omega)]
  omega
theorem num_noD {s : ByteArray} {k : Nat} (hk : k < s.size) (h : byteZ s k < 48 ∨ 57 < byteZ s k) : numB s = false := by
  unfold numB
  rw [all_range_no hk (by unfold dgOk; rw [Bool.and_eq_false_iff, decide_eq_false_iff_not, decide_eq_false_iff_not]; omega)]
  simp
theorem num_yesD {s : ByteArray} (h1 : 1 ≤ s.size) (h0 : s.size = 1 ∨ byteZ s 0 ≠ 48) (h : digK s s.size) : numB s = true := by
  have e : s.data.toList.length = s.size := Array.length_toList
  rw [num_ofZ h1 h0, List.all_eq_true]
  intro j hj
  have hj := List.mem_range.1 hj
  have := h _ (by rw [← e, List.take_length]; exact List.getElem_mem (by omega : j < s.data.toList.length))
  unfold dgOk
  rw [byte_at (by omega), Bool.and_eq_true, decide_eq_true_eq, decide_eq_true_eq]
  omega
def prsV (s : ByteArray) : Value := if numB s = true then .tuple #[.string (natB (decFold 0 s.data.toList)), .bool true] else .tuple #[.string ⟨#[]⟩, .bool false]
theorem prs_no {s : ByteArray} (h : numB s = false) : prsV s = .tuple #[.string ⟨#[]⟩, .bool false] := if_neg (by rw [h]; decide)
theorem prs_yes {s : ByteArray} (h : numB s = true) : prsV s = .tuple #[.string (natB (decFold 0 s.data.toList)), .bool true] := if_pos h
set_option maxRecDepth 100000 in
set_option maxHeartbeats 4000000 in
theorem rparse1_any (s : ByteArray) (w : World) (hs : s.size ≤ 5000) :
    Calls Tryz.prog 125 #[.string s] w fun e w' => e = .returned (prsV s) ∧ Only (fun _ => False) w w' := by
  by_cases h0 : s.size = 0
  · rw [prs_no (num_noE h0)]
    have q0 : ((s.size : Int) == 0) = true := by rw [h0]; rfl
    clear h0
    go_enter Tryz.func125, Tryz.ntmps125
    go_wp2_with fail
    go_ret2
    exact ⟨rfl, Only.refl _ _⟩
  have q0 : ((s.size : Int) == 0) = false := beq_eq_false_iff_ne.2 (by omega)
  have hp : 0 < s.size := by omega
  have b0 := byteZ_eq s 0 hp
  by_cases h1 : 2 ≤ s.size ∧ byteZ s 0 = 48
  · rw [prs_no (num_noZ h1.1 h1.2)]
    have q1 : (1 : Int) < s.size := by omega
    rw [h1.2] at b0
    clear h0 h1
    go_enter Tryz.func125, Tryz.ntmps125
    go_wp2_with fail
    go_ret2
    exact ⟨rfl, Only.refl _ _⟩
  have HH := Lib.hid (show s.size = 1 ∨ byteZ s 0 ≠ 48 by
    by_cases h2 : 2 ≤ s.size
    · exact .inr fun e => h1 ⟨h2, e⟩
    · left; omega)
  have HQ := Lib.hid (fun w => rof_any 10 w (by decide))
  have HNE := Lib.hid h1
  clear h0 h1
  go_enter Tryz.func125, Tryz.ntmps125
  go_upto_region 1 with (fail)
  go_cut [18] (fun v wx => v = .bool false ∧ wx = w)
  case first =>
    by_cases h2 : 1 < s.size
    · have q1 : (1 : Int) < s.size := by omega
      have q2 : (byteZ s 0 == 48) = false := beq_eq_false_iff_ne.2 (fun e => HNE.out ⟨h2, e⟩)
      clear h2
      go_wp2_with fail
      go_meet
      exact ⟨rfl, rfl⟩
    · have q1 : ¬ (1 : Int) < s.size := by omega
      clear h2
      go_wp2_with fail
      go_meet
      exact ⟨rfl, rfl⟩
  case rest =>
    obtain ⟨rfl, rfl⟩ := hcut
    have HP := Lib.hid hp
    clear q0 hp b0
    go_wp2_with fail
    go_loopw [4, 5] (fun va vi wr => ∃ k : Nat, vi = .int .i64 k ∧ k ≤ s.size ∧ va = .string (natB (decFold 0 (s.data.toList.take k))) ∧ digK s k ∧ Only (fun _ => False) wc wr) (fun _ vi _ => s.size - (intOf vi).toNat)
    case atStart => exact ⟨0, rfl, Nat.zero_le _, by rw [List.take_zero]; exact congrArg Value.string nat0.symm, (fun b hb => by simp at hb), Only.refl _ _⟩
    case round =>
      obtain ⟨k, rfl, hk, rfl, hd, hO⟩ := hrel
      have HD := Lib.hid hd
      have HO := Lib.hid hO
      clear hd hO
      by_cases hlt : k < s.size
      · have j1 : (k : Int) < s.size := by omega
        have j0 : 0 ≤ (k : Int) := by omega
        have b0 := byteZ_eq s k hlt
        obtain ⟨r0, r1⟩ := byteZ_bdR s k
        by_cases c1 : byteZ s k < 48
        · have HPV := Lib.hid (prs_no (num_noD hlt (.inl c1)))
          generalize byteZ s k = y at *
          go_wp2_with fail
          go_ret2
          rw [HPV.out]
          exact ⟨rfl, HO.out⟩
        · by_cases c2 : 57 < byteZ s k
          · have HPV := Lib.hid (prs_no (num_noD hlt (.inr c2)))
            generalize byteZ s k = y at *
            go_wp2_with fail
            go_ret2
            rw [HPV.out]
            exact ⟨rfl, HO.out⟩
          · have HD2 := Lib.hid (digK_succ HD.out hlt (by omega) (by omega))
            have HF := Lib.hid (digK_fold hlt (by omega))
            have hsz : (natB (decFold 0 (s.data.toList.take k))).size ≤ 9000 := by
              have := decFold_size HD.out
              rw [List.length_take] at this
              omega
            have HS2 := Lib.hid (show (natB (decFold 0 (s.data.toList.take k) * 10)).size ≤ 9000 by
              have := decFold_size HD2.out
              rw [List.length_take] at this
              rw [natB_size]
              refine Nat.le_trans (beL_len (k := (natB (decFold 0 (s.data.toList.take k))).size + 1) ?_) (by
                have h3 := decFold_size HD.out
                rw [List.length_take] at h3
                omega)
              have := natB_small (decFold 0 (s.data.toList.take k)) _ (Nat.le_refl _)
              rw [Nat.pow_succ]
              omega)
            have HM := Lib.hid (fun w => rmul10_any (decFold 0 (s.data.toList.take k)) w hsz)
            have hd10 : (byteZ s k - 48).toNat < 256 := by omega
            have HAD := Lib.hid (fun w => bigadd_any (decFold 0 (s.data.toList.take k) * 10) (byteZ s k - 48).toNat w HS2.out hd10)
            have HOD := Lib.hid (fun w => rofI_any (byteZ s k - 48) w (by omega) (by omega))
            rw [← HF.out] at HAD
            have HHI := Lib.hid hlt
            clear HS2 hsz HF
            generalize decFold 0 (s.data.toList.take k) = n at *
            generalize byteZ s k = y at *
            clear hd10
            go_wp2_with fail
            refine wp_region_quiet_below (by kernel_rfl) (by kernel_rfl) ?_
            repeat (go_big_quiet_step ((first
              | (go_at_call 67; with_reducible exact Calls.regrown_of ((HQ.out _).mono fun _ _ h => ⟨h.1, h.2.below (Nat.le_refl _) (fun _ _ h => h)⟩))
              | (go_at_call 67; with_reducible exact Calls.regrown_of (HOD.out _))
              | (go_at_call 173; with_reducible exact Calls.regrown_of ((HM.out _).mono fun _ _ h => ⟨h.1, h.2.below (Nat.le_refl _) (fun _ _ h => h)⟩))
              | (go_at_call 68; with_reducible exact Calls.regrown_of ((HAD.out _).mono fun _ _ h => ⟨h.1, h.2.below (Nat.le_refl _) (fun _ _ h => h)⟩)))))
            refine wpQuiet_nil ?_
            intro w2 hw'
            obtain ⟨pq, hw''⟩ := hw'
            have HO2 := Lib.hid (HO.out.trans (Only.ofBelow (below_regrown wr pq.d pq.os) (fun _ => False)))
            rw [← hw''] at HO2
            clear hw''
            go_wp2_with fail
            go_roundw
            case rel => exact ⟨k + 1, by go_num, HHI.out, rfl, HD2.out, HO2.out⟩
            case measure => simp [intOf]; have := HHI.out; omega
      · obtain rfl : k = s.size := by omega
        have j1 : ¬ (s.size : Int) < s.size := by omega
        have HY := Lib.hid (num_yesD (by have := HP.out; omega) HH.out HD.out)
        have e : s.data.toList.length = s.size := Array.length_toList
        have HPV := Lib.hid (prs_yes HY.out)
        have HTL := Lib.hid (show s.data.toList.take s.size = s.data.toList by rw [← e, List.take_length])
        clear e
        rw [HTL.out]
        go_wp2_with fail
        go_ret2
        rw [HPV.out]
        exact ⟨rfl, HO.out⟩
end Go.Proofs.YtldkjkjpaiajlaaGreatDoor

namespace Go.Proofs.YtldkjkjpaiajlaaGreatDoor
open Go.RowKit

end Go.Proofs.YtldkjkjpaiajlaaGreatDoor

namespace Go.Proofs.YtldkjkjpaiajlaaGreatDoor
open Go.RowKit

end Go.Proofs.YtldkjkjpaiajlaaGreatDoor

namespace Go.Proofs.YtldkjkjpaiajlaaGreatDoor
open Go.RowKit

theorem Tryz.namedPow : Tryz.prog.globalNamed "internal/strconv.uint64pow10" = some 5 := by kernel_rfl
theorem tabIsU_only {P : Program} {A B : World} {name : String} {k : IntKind} {zs : List Int} {g : Nat} (h : Lib.TabIs P A name k zs) (hg : P.globalNamed name = some g) (hO : Only (fun _ => False) A B) : Lib.TabIs P B name k zs := by
  have hb : ∃ t fr, A.heap[g]? = some (.cells (zs.map fun z => Value.int k z).toArray t fr) := by
    unfold Lib.TabIs World.var? at h
    rw [hg, Option.bind_some] at h
    split at h
    · rename_i c t fr hb
      cases h
      exact ⟨t, fr, hb⟩
    · cases h
  obtain ⟨t, fr, hb⟩ := hb
  unfold Lib.TabIs World.var?
  rw [hg, Option.bind_some, hO.block g (Array.getElem?_eq_some_iff.1 hb).1 (fun h => h), hb]
/-- The listed variables that the program's texts read. -/
structure GlobU (w : World) : Prop where
  pow : Lib.TabIs Tryz.prog w "internal/strconv.uint64pow10" .u64 Lib.pow10Tab
  len : LenR w
theorem GlobU.only {a b : World} (h : GlobU a) (hO : Only (fun _ => False) a b) : GlobU b := ⟨tabIsU_only h.pow Tryz.namedPow hO, h.len.only hO (fun h => h)⟩
end Go.Proofs.YtldkjkjpaiajlaaGreatDoor
