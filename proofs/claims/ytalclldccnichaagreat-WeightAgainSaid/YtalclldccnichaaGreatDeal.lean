/-
  The reference's dealings: Deal, where it deals.
-/
import Derived.Test.YtalclldccnichaaGreatRef07b
import Derived.Test.YtalclldccnichaaGreatSplit

namespace Go.Proofs.YtalclldccnichaaGreat
open Go.RowKit

theorem one_later' (w : World) (A : Obj) {p : Addr} {v : Value} (hc : w.cell? p = some v) : ((w.alloc A).drew).cell? p = some v :=
  (((Only.refl (fun _ => False) w).alloc A).drew).cell hc (fun h => h)
/-- A dealing. -/
structure Dl where
  cm : List Int
  pt : Int
  bx : List ByteArray
def sAt (l : List ByteArray) (j : Nat) : ByteArray := l.getD j ByteArray.empty
/-- Strings in a slice. -/
def StrsAt (W : World) (sv : Value) (l : List ByteArray) : Prop :=
  (∃ a c, sv = .slice a 0 c ∧ l = []) ∨ ∃ b off cap, sv = .slice (some ⟨b, off, none⟩) l.length cap ∧ b < W.heap.size ∧ l.length ≤ cap ∧ cap ≤ 9223372036854775807 ∧ ∀ j, j < l.length → W.cell? ⟨b, off + j, none⟩ = some (.string (sAt l j))
theorem StrsAt.only {A B : World} (h : Only (fun _ => False) A B) {sv : Value} {l : List ByteArray} : StrsAt A sv l → StrsAt B sv l
  | .inl e => .inl e
  | .inr ⟨b, off, cap, e, hb, h1, h2, hc⟩ => .inr ⟨b, off, cap, e, Nat.lt_of_lt_of_le hb h.size, h1, h2, fun j hj => h.cell (hc j hj) (fun h => h)⟩
theorem StrsAt.slice {W : World} {v : Value} {l : List ByteArray} (h : StrsAt W v l) : ∃ a c, v = .slice a l.length c := by
  rcases h with ⟨a, c, rfl, rfl⟩ | ⟨b, off, cap, rfl, _⟩
  · exact ⟨_, _, rfl⟩
  · exact ⟨_, _, rfl⟩
/-- The cells of a dealing. -/
structure DlAt (W : World) (c0 c1 c2 : Value) (d : Dl) : Prop where
  cm : PtsAt W.heap.size W c0 d.cm
  pt : c1 = .int .i64 d.pt
  bx : StrsAt W c2 d.bx
theorem DlAt.only {A B : World} (h : Only (fun _ => False) A B) {c0 c1 c2 : Value} {d : Dl} (hd : DlAt A c0 c1 c2 d) : DlAt B c0 c1 c2 d := ⟨hd.cm.only h, hd.pt, hd.bx.only h⟩
def ptS (seed : ByteArray) : ByteArray := (⟨#[112, 111, 105, 110, 116, 47]⟩ : ByteArray) ++ seed
def cmTo (cs : List Int) : Nat → List Int
  | 0 => []
  | k + 1 => cmTo cs k ++ [powM 4 (ptAt cs k) 2305843009213691579]
theorem cmTo_len (cs : List Int) : ∀ k, (cmTo cs k).length = k
  | 0 => rfl
  | k + 1 => by rw [cmTo, List.length_append, cmTo_len cs k]; rfl
def boxOf (cs ks : List Int) (n : Int) (i : Nat) : ByteArray := strOfNums (sealL (valZ cs (i + 1)) (powM (ptAt ks i) n 2305843009213691579).toNat i)
def bxTo (cs ks : List Int) (n : Int) : Nat → List ByteArray
  | 0 => []
  | k + 1 => bxTo cs ks n k ++ [boxOf cs ks n k]
theorem bxTo_len (cs ks : List Int) (n : Int) : ∀ k, (bxTo cs ks n k).length = k
  | 0 => rfl
  | k + 1 => by rw [bxTo, List.length_append, bxTo_len cs ks n k]; rfl
/-- What is dealt. -/
def dealZ (cs ks : List Int) (seed : ByteArray) : Dl := ⟨cmTo cs cs.length, powM 4 (scalarZ (ptS seed)) 2305843009213691579, bxTo cs ks (scalarZ (ptS seed)) ks.length⟩
def srowS (l : List ByteArray) : List Value := l.map Value.string
theorem srowS_append (a b : List ByteArray) : srowS (a ++ b) = srowS a ++ srowS b := by simp [srowS]
/-- The slices of a dealing, each in a block of its own from base on. -/
structure DlOwn (base : Nat) (W : World) (c0 c2 : Value) (d : Dl) : Prop where
  cm : W.ownsRow base 3 1 c0 d.cm.length (irow d.cm)
  bx : W.ownsRow base 9 1 c2 d.bx.length (srowS d.bx)
theorem own_base {w : World} {b b' e size n : Nat} {v : Value} {xs : List Value} (h : w.ownsRow b e size v n xs) (hb : b' ≤ b) : w.ownsRow b' e size v n xs := by
  refine ⟨h.1, ?_⟩
  rcases h.2 with hn | ⟨g, cap, cur, hv, hbb, rest⟩
  · exact .inl hn
  · exact .inr ⟨g, cap, cur, hv, Nat.le_trans hb hbb, rest⟩
def DealPost (w : World) (d : Dl) (e : Ending) (w' : World) : Prop := Only (fun _ => False) w w' ∧ ∃ c0 c2, e = .returned (.tuple #[.agg #[c0, .int .i64 d.pt, c2], .bool true]) ∧ DlOwn w.heap.size w' c0 c2 d
theorem Tryz.infoD : (Tryz.prog.info? 72).map (·.size) = some 3 := by kernel_rfl
theorem Tryz.infoS1 : (Tryz.prog.info? 9).map (fun i => (i.zero, i.size, i.bytes)) = some (some (.string ByteArray.empty), 1, 16) := by kernel_rfl
/-- The dealing that is being made: its commitments. -/
structure DealC (w wr : World) (Bd : Nat) (vc vb : Value) (L : List Int) (p : Int) (X : List ByteArray) : Prop where
  blk : wr.heap[Bd]? = some (.cells #[vc, .int .i64 p, vb] 72 (0, 0))
  own : wr.ownsRow (Bd + 1) 3 1 vc L.length (irow L)
  ownS : wr.ownsRow (Bd + 1) 9 1 vb X.length (srowS X)
  apart : ∀ g, vc.ownBlock = some g → vb.ownBlock ≠ some g
  low : w.heap.size ≤ Bd
  only : Only (fun _ => False) w wr
theorem own_low' {w : World} {base e size n : Nat} {v : Value} {xs : List Value} (h : w.ownsRow base e size v n xs) {k : Nat} (hk : v.ownBlock = some k) : base ≤ k := (own_lt h hk).2
theorem heap_set3 {w : World} {g : Nat} {a b c : Value} {t : TypeId} (h : w.heap[g]? = some (.cells #[a, b, c] t (0, 0))) (x : Value) : (w.setCell ⟨g, 0, none⟩ x).heap[g]? = some (.cells #[x, b, c] t (0, 0)) ∧ (w.setCell ⟨g, 2, none⟩ x).heap[g]? = some (.cells #[a, b, x] t (0, 0)) :=
  ⟨heap_setCell_same w g 0 _ t x h, heap_setCell_same w g 2 _ t x h⟩
theorem deal_start (w w1 : World) (p : Int) (hO : Only (fun _ => False) w w1) : DealC w (w1.alloc (.cells #[.slice none 0 0, .int .i64 p, .slice none 0 0] 72)) w1.heap.size (.slice none 0 0) (.slice none 0 0) [] p [] :=
  ⟨heap_alloc_last w1 _, World.ownsRow_nil _ _ _ _, World.ownsRow_nil _ _ _ _, fun g h => by simp [Value.ownBlock] at h, hO.size, hO.alloc _⟩
/-- One commitment more. -/
theorem DealC.commit {w wr w1 : World} {Bd k : Nat} {vc vb : Value} {L : List Int} {p z : Int} {X : List ByteArray} (h : DealC w wr Bd vc vb L p X) (hk : L.length = k) {g cap : Nat} {o : Obj}
    (hown : w1.ownsRow (Bd + 1) 3 1 (.slice (some ⟨g, 0, none⟩) (k + 1) cap) (k + 1) (irow L ++ [.int .i64 z])) (hg : ((wr.alloc o).drew).grownBy w1 vc.ownBlock) (hat : vc.ownBlock = some g ∨ g = wr.heap.size + 1) :
    w1.heap[Bd]? = some (.cells #[vc, .int .i64 p, vb] 72 (0, 0)) ∧ DealC w (w1.setCell ⟨Bd, 0, none⟩ (.slice (some ⟨g, 0, none⟩) (k + 1) cap)) Bd (.slice (some ⟨g, 0, none⟩) (k + 1) cap) vb (L ++ [z]) p X := by
  subst hk
  have hlt := (Array.getElem?_eq_some_iff.1 h.blk).1
  have hO0 : Only (fun _ => False) wr (wr.alloc o).drew := ((Only.refl _ wr).alloc o).drew
  have hO : Only (fun i => vc.ownBlock = some i) (wr.alloc o).drew w1 := (Only.refl _ _).grown hg (fun i e _ => e)
  have hne : vc.ownBlock ≠ some Bd := fun e => by have := own_low' h.own e; omega
  have hblk : w1.heap[Bd]? = some (.cells #[vc, .int .i64 p, vb] 72 (0, 0)) := (hO.block Bd (by have := hO0.size; omega) hne).trans ((hO0.block Bd hlt (fun h => h)).trans h.blk)
  have hgb : (Value.slice (some ⟨g, 0, none⟩) (L.length + 1) cap).ownBlock = some g := rfl
  have hgl : Bd + 1 ≤ g := own_low' hown hgb
  refine ⟨hblk, (heap_set3 hblk _).1, ?_, ?_, ?_, h.low, ?_⟩
  · rw [List.length_append, List.length_singleton, irow_append]
    exact ownsRow_setCell_other hown (by rw [hgb]; simp; omega) _
  · refine ownsRow_setCell_other (hO.owns (hO0.owns h.ownS (fun _ _ h => h)) (fun i hi e => h.apart i e hi)) (fun e => ?_) _
    have := own_low' h.ownS (show vb.ownBlock = some Bd from e); omega
  · intro i hi he
    rw [hgb] at hi
    obtain rfl : g = i := by simpa using hi
    rcases hat with hat | hat
    · exact h.apart g hat he
    · have := (own_lt h.ownS he).1; omega
  · refine ((h.only.trans hO0).trans' hO (fun i hi e => ?_)).setCell (.inr (by show w.heap.size ≤ Bd; exact h.low)) _
    have := own_low' h.own e; have := h.low; omega

/-- One box more. -/
theorem DealC.box {w wr wz w1 : World} {Bd k : Nat} {vc vb : Value} {L : List Int} {p : Int} {X : List ByteArray} {s : ByteArray} (h : DealC w wr Bd vc vb L p X) (hk : X.length = k) {g cap : Nat} (hO0 : Only (fun _ => False) wr wz)
    (hown : w1.ownsRow (Bd + 1) 9 1 (.slice (some ⟨g, 0, none⟩) (k + 1) cap) (k + 1) (srowS X ++ [.string s])) (hg : wz.grownBy w1 vb.ownBlock) (hat : vb.ownBlock = some g ∨ g = wz.heap.size) :
    w1.heap[Bd]? = some (.cells #[vc, .int .i64 p, vb] 72 (0, 0)) ∧ DealC w (w1.setCell ⟨Bd, 2, none⟩ (.slice (some ⟨g, 0, none⟩) (k + 1) cap)) Bd vc (.slice (some ⟨g, 0, none⟩) (k + 1) cap) L p (X ++ [s]) := by
  subst hk
  have hlt := (Array.getElem?_eq_some_iff.1 h.blk).1
  have hO : Only (fun i => vb.ownBlock = some i) wz w1 := (Only.refl _ _).grown hg (fun i e _ => e)
  have hne : vb.ownBlock ≠ some Bd := fun e => by have := own_low' h.ownS e; omega
  have hblk : w1.heap[Bd]? = some (.cells #[vc, .int .i64 p, vb] 72 (0, 0)) := (hO.block Bd (by have := hO0.size; omega) hne).trans ((hO0.block Bd hlt (fun h => h)).trans h.blk)
  have hgb : (Value.slice (some ⟨g, 0, none⟩) (X.length + 1) cap).ownBlock = some g := rfl
  have hgl : Bd + 1 ≤ g := own_low' hown hgb
  refine ⟨hblk, (heap_set3 hblk _).2, ?_, ?_, ?_, h.low, ?_⟩
  · refine ownsRow_setCell_other (hO.owns (hO0.owns h.own (fun _ _ h => h)) (fun i hi e => h.apart i hi e)) (fun e => ?_) _
    have := own_low' h.own (show vc.ownBlock = some Bd from e); omega
  · rw [List.length_append, List.length_singleton, srowS_append]
    exact ownsRow_setCell_other hown (by rw [hgb]; simp; omega) _
  · intro i hi he
    rw [hgb] at he
    obtain rfl : g = i := by simpa using he
    rcases hat with hat | hat
    · exact h.apart g hi hat
    · have := (own_lt h.own hi).1; have := hO0.size; omega
  · refine ((h.only.trans hO0).trans' hO (fun i hi e => ?_)).setCell (.inr (by show w.heap.size ≤ Bd; exact h.low)) _
    have := own_low' h.ownS e; have := h.low; omega
theorem strs_of_own {w : World} {base : Nat} {v : Value} {l : List ByteArray} (h : w.ownsRow base 9 1 v l.length (srowS l)) (_hm : l.length ≤ 9223372036854775807) : StrsAt w v l := by
  rcases h.2 with ⟨rfl, h0⟩ | ⟨g, cap, cur, rfl, hb, hg, hcap, hcap2, hsz, htk⟩
  · exact .inl ⟨none, 0, rfl, List.eq_nil_of_length_eq_zero h0⟩
  · refine .inr ⟨g, 0, cap, rfl, (Array.getElem?_eq_some_iff.1 hg).1, hcap, by unfold maxLen at hcap2; omega, fun j hj => ?_⟩
    rw [Nat.zero_add, cell_of_row w g j cur 9 (0, 0) hg]
    have h1 : (srowS l)[j]? = some (.string (sAt l j)) := by simp [srowS, sAt, List.getD, hj]
    rw [← h1, ← htk, List.getElem?_take_of_lt (by omega)]
    simp
theorem slice_one {w : World} {b1 e1 s1 n1 b2 e2 s2 n2 : Nat} {v u : Value} {xs ys : List Value} (h : w.ownsRow b1 e1 s1 v n1 xs) (h2 : w.ownsRow b2 e2 s2 u n2 ys) (p : Int) : (#[v, .int .i64 p, u] : Array Value).all (·.oneCell') = true := by
  obtain ⟨_, _, rfl⟩ := slice_of_own h
  obtain ⟨_, _, rfl⟩ := slice_of_own h2
  simp [Value.oneCell']
section
variable {P : Program}
/-- A struct and one slot come back. -/
theorem results_cell_tmp {fn : Func} {p q : Go.Tmp} {ty : TypeId} (h : fn.results = #[.cell p ty, .tmp q]) (tmps : Array Value) (w : World) (g : Nat) (t : TypeId) (cs : Array Value) (fr : Nat × Nat) (d : TypeDesc)
    (hp : tmps.getD p undef = .pointer (some ⟨g, 0, none⟩)) (hg : w.heap[g]? = some (.cells cs t fr))
    (hu : P.underlying ty = some d) (hd : (match d with | .struct _ | .array _ _ => true | _ => false) = true) (hi : (P.info? ty).map (·.size) = some cs.size) (v : Value) (hv : tmps.getD q undef = v) :
    (results fn tmps).run P w = .ok (.tuple #[.agg cs, v]) w := by
  subst hv
  have hp' : tmps[p]?.getD undef = .pointer (some ⟨g, 0, none⟩) := by simpa using hp
  simp [results, h, hp', asAddr, run_loadVar_row w g t ty cs fr d hg hu hd hi]
end
theorem DlOwn.at {base : Nat} {W : World} {c0 c2 : Value} {d : Dl} (h : DlOwn base W c0 c2 d) (h1 : d.cm.length ≤ 9223372036854775807) (h2 : d.bx.length ≤ 9223372036854775807) : DlAt W c0 (.int .i64 d.pt) c2 d := ⟨pts_of_own h.cm h1, rfl, strs_of_own h.bx h2⟩
theorem one_str (x : ByteArray) : ∀ v ∈ [Value.string x], v.oneCell' = true := by intro v hv; simp at hv; subst hv; rfl

set_option maxRecDepth 100000 in
set_option maxHeartbeats 4000000 in
theorem rdeal_yes (cv kv : Value) (cs ks : List Int) (seed : ByteArray) (w : World) (hC : PtsAt w.heap.size w cv cs) (hK : PtsAt w.heap.size w kv ks) (hc1 : 1 ≤ cs.length) (hc2 : cs.length ≤ ks.length) (hk60 : ks.length ≤ 60) (hm : membersB ks = true)
    (hr : ∀ j, j < cs.length → 0 ≤ ptAt cs j ∧ ptAt cs j < 1152921504606845789) (hs : seed.size ≤ 100000) :
    Calls Tryz.prog 37 #[cv, kv, .string seed] w (DealPost w (dealZ cs ks seed)) := by
  obtain ⟨i0, hi0, hz0, hz1, hz2⟩ := info_parts Tryz.infoI
  obtain ⟨j0, hj0, hy0, hy1, hy2⟩ := info_parts Tryz.infoS1
  have HC := Lib.hid hC
  have HK := Lib.hid hK
  have HR := Lib.hid hr
  have HMB := Lib.hid (fun (w : World) (hK : PtsAt w.heap.size w kv ks) => rmembers_is kv ks true w hK (by omega) hm)
  have HSC := Lib.hid (fun w => rscalar_any (ptS seed) w (by unfold ptS; rw [ByteArray.size_append]; show 6 + _ ≤ _; omega))
  obtain ⟨n0', n1'⟩ := scalarZ_bd (ptS seed)
  obtain ⟨n, hn⟩ : ∃ n, scalarZ (ptS seed) = n := ⟨_, rfl⟩
  rw [hn] at HSC n0' n1'
  have hn0 : 0 ≤ n := n0'
  have HDZ := Lib.hid (show dealZ cs ks seed = ⟨cmTo cs cs.length, powM 4 n 2305843009213691579, bxTo cs ks n ks.length⟩ by rw [← hn]; rfl)
  obtain ⟨a1, c1, rfl⟩ := hC.slice
  obtain ⟨a2, c2, rfl⟩ := hK.slice
  unfold ptS at HSC
  clear hC hK hr hm hn
  have q1 : ¬ (ks.length : Int) < 1 := by omega
  have q2 : ¬ (60 : Int) < ks.length := by omega
  have q3 : ¬ (cs.length : Int) < 1 := by omega
  have q4 : ¬ (ks.length : Int) < cs.length := by omega
  go_enter Tryz.func37, Tryz.ntmps37
  go_wp2_with fail
  have HZ0 := Lib.hid (heap_alloc_last w (.cells #[.slice none 0 0, .int .i64 0, .slice none 0 0] 72))
  have HO0 := Lib.hid ((Only.refl (fun _ => False) w).alloc (.cells #[.slice none 0 0, .int .i64 0, .slice none 0 0] 72))
  have hsz0 : w.heap.size < (w.alloc (.cells #[.slice none 0 0, .int .i64 0, .slice none 0 0] 72)).heap.size := by simp
  generalize w.alloc (.cells #[.slice none 0 0, .int .i64 0, .slice none 0 0] 72) = w0 at *
  refine (HMB.out w0 (HK.out.only HO0.out)).mono ?_
  rintro e w' ⟨rfl, rfl⟩
  clear HMB
  go_wp2_with fail
  go_loop [9] (fun vi => ∃ k : Nat, k ≤ cs.length ∧ vi = .int .i64 k) (fun vi => cs.length - (intOf vi).toNat)
  case atStart => exact ⟨0, Nat.zero_le _, rfl⟩
  case round =>
    obtain ⟨k, hk, rfl⟩ := hrel
    by_cases hlt : k < cs.length
    · obtain ⟨bc, oc, rfl, hb, hl0, hcp1, hcp2, hcell⟩ := HC.out.cellAt hlt
      have e1 := HO0.out.cell hcell (fun h => h)
      obtain ⟨r0, r1⟩ := HR.out k hlt
      generalize ptAt cs k = c at *
      have i1 : (k : Int) < cs.length := by omega
      have hbw : bc < w0.heap.size := by omega
      clear hl0 hcell hk
      go_wp2
      go_round
      case rel => exact ⟨k + 1, by omega, by go_num⟩
      case measure => simp [intOf]; omega
    · obtain rfl : k = cs.length := by omega
      clear hlt hk
      go_wp2_with fail
      refine (HSC.out _).mono ?_
      rintro e w1 ⟨rfl, hO1⟩
      have HZ1 := Lib.hid (row_still hO1 HZ0.out)
      have HO1 := Lib.hid (HO0.out.trans hO1)
      have hsz1 := hO1.size
      clear hO1
      go_wp2_with fail
      refine (rpow_any 4 n 2305843009213691579 _ (by decide) (by decide) hn0 (by omega)).mono ?_
      rintro e w' ⟨rfl, rfl⟩
      obtain ⟨p, hp⟩ : ∃ p, powM 4 n 2305843009213691579 = p := ⟨_, rfl⟩
      rw [hp] at HDZ ⊢
      clear hp
      go_wp2_with fail
      have HD0 := Lib.hid (deal_start w w1 p HO1.out)
      have HZ2 := Lib.hid (row_still ((Only.refl (fun _ => False) w1).alloc (.cells #[.slice none 0 0, .int .i64 p, .slice none 0 0] 72)) HZ1.out)
      have hBd : w1.heap.size < (w1.alloc (.cells #[.slice none 0 0, .int .i64 p, .slice none 0 0] 72)).heap.size := by simp
      have HCW := Lib.hid (HC.out.only (HO1.out.alloc (.cells #[.slice none 0 0, .int .i64 p, .slice none 0 0] 72)))
      have hrd : w.heap.size < w1.heap.size := by omega
      generalize w1.alloc (.cells #[.slice none 0 0, .int .i64 p, .slice none 0 0] 72) = w2 at *
      generalize w1.heap.size = Bd at *
      clear HZ0 HZ1 HSC
      go_loopw [12] (fun vi wr => ∃ (k : Nat) (vc : Value), k ≤ cs.length ∧ vi = .int .i64 k ∧ DealC w wr Bd vc (.slice none 0 0) (cmTo cs k) p [] ∧ wr.heap[w.heap.size]? = some (.cells #[.slice none 0 0, .int .i64 0, .slice none 0 0] 72 (0, 0))) (fun vi _ => cs.length - (intOf vi).toNat)
      case atStart => exact ⟨0, .slice none 0 0, Nat.zero_le _, rfl, HD0.out, HZ2.out⟩
      case round =>
        clear HD0 HZ2 HCW
        obtain ⟨k, vc, hk, rfl, hD, hZ⟩ := hrel
        have HD := Lib.hid hD
        have HZ := Lib.hid hZ
        by_cases hlt : k < cs.length
        · obtain ⟨bc, oc, rfl, hb, hl0, hcp1, hcp2, hcell⟩ := HC.out.cellAt hlt
          have e1 := hD.only.cell hcell (fun h => h)
          have e0 : wr.cell? ⟨Bd, 0, none⟩ = some vc := cell_of_row _ _ 0 _ _ _ hD.blk
          have f0 : wr.frozen? ⟨Bd, 0, none⟩ = false := frozen_of_row _ _ 0 _ _ hD.blk
          have hBl := (Array.getElem?_eq_some_iff.1 hD.blk).1
          have hlow := hD.low
          obtain ⟨hc0, hc1'⟩ := HR.out k hlt
          have HCM := Lib.hid (show cmTo cs (k + 1) = cmTo cs k ++ [powM 4 (ptAt cs k) 2305843009213691579] from rfl)
          have HLE := Lib.hid (cmTo_len cs k)
          have HOW := Lib.hid (show wr.ownsRow (Bd + 1) 3 1 vc k (irow (cmTo cs k)) by have := hD.own; rw [cmTo_len] at this; exact this)
          generalize ptAt cs k = c at *
          have HN0 := Lib.hid (show some Bd ≠ vc.ownBlock from fun e => by have := own_low' hD.own e.symm; omega)
          have HN1 := Lib.hid (show some bc ≠ vc.ownBlock from fun e => by have := own_low' hD.own e.symm; omega)
          have HGO := Lib.hid (fun (w1 : World) (z : Int) (g cap : Nat) (o : Obj) (h1 : w1.ownsRow (Bd + 1) 3 1 (.slice (some ⟨g, 0, none⟩) (k + 1) cap) (k + 1) (irow (cmTo cs k) ++ [.int .i64 z])) (h2 : ((wr.alloc o).drew).grownBy w1 vc.ownBlock) (h3 : vc.ownBlock = some g ∨ g = wr.heap.size + 1) => hD.commit (cmTo_len cs k) h1 h2 h3)
          have hbw : bc < wr.heap.size := by omega
          have i1 : (k : Int) < cs.length := by omega
          have i2 : 0 ≤ (k : Int) := by omega
          obtain ⟨ac, cc, hvc⟩ := slice_of_own HOW.out
          generalize cmTo cs k = L at *
          clear hl0 hcell hk hD hZ
          subst hvc
          generalize hvc : Value.slice ac k cc = vc at *
          have HVC := Lib.hid hvc
          clear hvc
          go_wp2_with fail
          refine wp_region_split 9 (by kernel_rfl) (by kernel_rfl) (wpAny_of_held (S := fun w' => w'.cell? ⟨Bd, 0, none⟩ = some vc ∧ w'.cell? ⟨bc, oc + k, none⟩ = some (.int .i64 c)) _ _ _ _ ?_)
          simp only [List.take_succ_cons, List.take_zero]
          change wpAnyH _ _ _ _ _ _ _ _ wr.drew
          have hHeld : wr.drew.cell? ⟨Bd, 0, none⟩ = some vc ∧ wr.drew.cell? ⟨bc, oc + k, none⟩ = some (.int .i64 c) := ⟨e0, e1⟩
          refine' wpAnyH_take (i := 0) (v := _) rfl (by kernel_rfl) (by kernel_rfl) (by kernel_rfl) (fun _ _ _ h => h) (Or.inl ⟨by rfl, ?hy0⟩) hHeld ?r0
          case hy0 => (intro w hSw; obtain ⟨s0, s1⟩ := hSw; go_simp; with_reducible rfl)
          simp only [Act.put, List.getElem_toArray, List.getElem_cons_zero, List.setIfInBounds_toArray, List.set_cons_zero, List.set_cons_succ]
          refine' wpAnyH_take (i := 1) (v := _) rfl (by kernel_rfl) (by kernel_rfl) (by kernel_rfl) (fun _ _ _ h => h) (Or.inl ⟨by rfl, ?hy1⟩) hHeld ?r1
          case hy1 => (intro w hSw; obtain ⟨s0, s1⟩ := hSw; go_simp; with_reducible rfl)
          simp only [Act.put, List.getElem_toArray, List.getElem_cons_zero, List.getElem_cons_succ, List.setIfInBounds_toArray, List.set_cons_zero, List.set_cons_succ]
          refine' wpAnyH_take (i := 2) (v := _) rfl (by kernel_rfl) (by kernel_rfl) (by kernel_rfl) (fun _ _ _ h => h) (Or.inl ⟨by rfl, ?hy2⟩) hHeld ?r2
          case hy2 => (intro w hSw; obtain ⟨s0, s1⟩ := hSw; go_simp; with_reducible rfl)
          simp only [Act.put, List.getElem_toArray, List.getElem_cons_zero, List.getElem_cons_succ, List.setIfInBounds_toArray, List.set_cons_zero, List.set_cons_succ]
          refine' wpAnyH_take (i := 3) (v := _) rfl (by kernel_rfl) (by kernel_rfl) (by kernel_rfl) (fun _ _ _ h => h) (Or.inl ⟨by rfl, ?hy3⟩) hHeld ?r3
          case hy3 => (intro w hSw; obtain ⟨s0, s1⟩ := hSw; go_simp; with_reducible rfl)
          simp only [Act.put, List.getElem_toArray, List.getElem_cons_zero, List.getElem_cons_succ, List.setIfInBounds_toArray, List.set_cons_zero, List.set_cons_succ]
          refine' wpAnyH_take (i := 4) (v := _) rfl (by kernel_rfl) (by kernel_rfl) (by kernel_rfl) (fun _ _ _ h => h) (Or.inl ⟨by rfl, ?hy4⟩) hHeld ?r4
          case hy4 => (intro w hSw; obtain ⟨s0, s1⟩ := hSw; go_simp; with_reducible rfl)
          simp only [Act.put, List.getElem_toArray, List.getElem_cons_zero, List.getElem_cons_succ, List.setIfInBounds_toArray, List.set_cons_zero, List.set_cons_succ]
          refine' wpAnyH_take (i := 5) (v := _) rfl (by kernel_rfl) (by kernel_rfl) (by kernel_rfl) (fun _ _ _ h => h) (Or.inl ⟨by rfl, ?hy5⟩) hHeld ?r5
          case hy5 => (intro w hSw; obtain ⟨s0, s1⟩ := hSw; go_simp; with_reducible rfl)
          simp only [Act.put, List.getElem_toArray, List.getElem_cons_zero, List.getElem_cons_succ, List.setIfInBounds_toArray, List.set_cons_zero, List.set_cons_succ]
          refine wpAnyH_ready (rs := [6]) (by kernel_rfl) (by simp) ?_
          refine AllReadyH.cons rfl (fun K hK => ?_) AllReadyH.nil
          go_simp
          refine (rpow_any 4 c 2305843009213691579 _ (by decide) (by decide) hc0 (by omega)).mono ?_
          rintro e w' ⟨rfl, rfl⟩
          refine hK.out _ _ hHeld (fun hHeld => ?_)
          clear hK K
          try simp only [Act.put, List.getElem_toArray, List.getElem_cons_zero, List.getElem_cons_succ, List.setIfInBounds_toArray, List.set_cons_zero, List.set_cons_succ]
          generalize powM 4 c 2305843009213691579 = pz at *
          refine wpAnyH_ready (rs := [7]) (by kernel_rfl) (by simp) ?_
          refine AllReadyH.cons rfl (fun K hK => ?_) AllReadyH.nil
          go_simp
          refine hK.out _ _ ⟨one_later' wr _ e0, one_later' wr _ e1⟩ (fun hHeld => ?_)
          clear hK K
          refine wpAnyH_ready (rs := [8]) (by kernel_rfl) (by simp) ?_
          refine AllReadyH.cons rfl (fun K hK => ?_) AllReadyH.nil
          refine step_append_lies _ rfl _ _ 22 rfl (Bd + 1) 3 i0 _ 1 8 Tryz.underlying22 hi0 hz0 hz1 hz2 rfl (by decide) vc k (irow L) rfl (owns_drew (HOW.out.alloc _)) ⟨wr.heap.size, 0, none⟩ 1 1 [.int .i64 pz] rfl rfl (World.news_of_block (cs := #[.int .i64 pz]) (t := 3) (fr := (0, 0)) (heap_alloc_new wr _)) (one_int _) (by decide) (by unfold maxLen; omega) (by omega) (by simp; omega) _ rfl ?_
          intro g cap w1 hown1 hgrow hat hlt1
          refine hK.out _ _ ⟨hgrow.cell (one_later' wr _ e0) HN0.out, hgrow.cell (one_later' wr _ e1) HN1.out⟩ (fun hHeld => ?_)
          clear hK K
          refine wpAnyH_done (by kernel_rfl) ?_ _
          simp only [headPost, Act.put, List.getElem_toArray, List.getElem_cons_zero, List.getElem_cons_succ, List.setIfInBounds_toArray, List.set_cons_zero, List.set_cons_succ, List.drop_succ_cons, List.drop_zero]
          obtain ⟨hbl1, hdn⟩ := HGO.out _ _ _ _ _ hown1 hgrow (by simpa using hat)
          have HDN := Lib.hid hdn
          have HZN := Lib.hid (show (w1.setCell ⟨Bd, 0, none⟩ (.slice (some ⟨g, 0, none⟩) (k + 1) cap)).heap[w.heap.size]? = some (.cells #[.slice none 0 0, .int .i64 0, .slice none 0 0] 72 (0, 0)) by
            rw [heap_setCell_other _ _ _ _ (by show w.heap.size ≠ Bd; omega)]
            have hO := (Only.refl (fun i => vc.ownBlock = some i) ((wr.alloc (.cells #[.int .i64 pz] 3)).drew)).grown hgrow (fun i e _ => e)
            have hw := (Array.getElem?_eq_some_iff.1 HZ.out).1
            rw [hO.block w.heap.size (by show w.heap.size < (wr.alloc _).heap.size; simp; omega) (fun e => by have := own_low' HOW.out e; omega)]
            show (wr.alloc _).heap[w.heap.size]? = _
            rw [Below.heap_alloc _ _ _ hw]; exact HZ.out)
          have c1 := cell_of_row _ _ 0 _ _ _ hbl1
          have f1 := frozen_of_row _ _ 0 _ _ hbl1
          have l1 := (Array.getElem?_eq_some_iff.1 hbl1).1
          clear hown1 hgrow hat hdn hbl1 e0 e1 f0 hHeld
          go_wp2
          go_roundw
          case rel => exact ⟨k + 1, .slice (some ⟨g, 0, none⟩) (k + 1) cap, by omega, by go_num, by rw [HCM.out]; exact HDN.out, HZN.out⟩
          case measure => simp [intOf]; omega
        · obtain rfl : k = cs.length := by omega
          have i1 : ¬ (cs.length : Int) < cs.length := by omega
          have HCS0 := Lib.hid (HC.out.only hD.only)
          clear hlt hk hZ hD
          go_wp2_with fail
          obtain ⟨wm, hwm⟩ : ∃ wm : World, wm = wr := ⟨_, rfl⟩
          subst hwm
          go_loopw [13] (fun vi wr => ∃ (k : Nat) (vb : Value), k ≤ ks.length ∧ vi = .int .i64 k ∧ DealC w wr Bd vc vb (cmTo cs cs.length) p (bxTo cs ks n k) ∧ wr.heap[w.heap.size]? = some (.cells #[.slice none 0 0, .int .i64 0, .slice none 0 0] 72 (0, 0))) (fun vi _ => ks.length - (intOf vi).toNat)
          case atStart => exact ⟨0, .slice none 0 0, Nat.zero_le _, rfl, HD.out, HZ.out⟩
          case round =>
            clear HD HZ HCS0
            obtain ⟨k, vb, hk, rfl, hD, hZ⟩ := hrel
            have HD := Lib.hid hD
            have HZ := Lib.hid hZ
            by_cases hlt : k < ks.length
            · obtain ⟨bk, ok, rfl, hb, hl0, hcp1, hcp2, hcell⟩ := HK.out.cellAt hlt
              have e1 := hD.only.cell hcell (fun h => h)
              have e0 : wr.cell? ⟨Bd, 2, none⟩ = some vb := cell_of_row _ _ 2 _ _ _ hD.blk
              have hBl := (Array.getElem?_eq_some_iff.1 hD.blk).1
              have hlow := hD.low
              have HCS := Lib.hid (HC.out.only hD.only)
              have HLE := Lib.hid (bxTo_len cs ks n k)
              have HOW := Lib.hid (show wr.ownsRow (Bd + 1) 9 1 vb k (srowS (bxTo cs ks n k)) by have := hD.ownS; rw [bxTo_len] at this; exact this)
              have HBX := Lib.hid (show bxTo cs ks n (k + 1) = bxTo cs ks n k ++ [boxOf cs ks n k] from rfl)
              obtain ⟨pn, hpn⟩ : ∃ pn : Nat, powM (ptAt ks k) n 2305843009213691579 = pn := Int.eq_ofNat_of_zero_le (powM_bd _ _ _ (by decide)).1
              have HPZ := Lib.hid hpn
              have HPN := Lib.hid (show pn < 9223372036854775808 by have := (powM_bd (ptAt ks k) n 2305843009213691579 (by decide)).2; omega)
              have HVZ := Lib.hid (show 0 ≤ valZ cs ((k : Int) + 1) ∧ valZ cs ((k : Int) + 1) ≤ 9223372036854775807 by have := valZ_bd cs ((k : Int) + 1); rw [show gQ = 1152921504606845789 from rfl] at this; omega)
              obtain ⟨bo, hbo⟩ : ∃ bo, boxOf cs ks n k = bo := ⟨_, rfl⟩
              have HBO := Lib.hid (show strOfNums (sealL (valZ cs ((k : Int) + 1)) pn k) = bo by rw [← hbo]; unfold boxOf; rw [hpn, Int.toNat_natCast])
              rw [hbo] at HBX
              have HN0 := Lib.hid (show some Bd ≠ vb.ownBlock from fun e => by have := own_low' hD.ownS e.symm; omega)
              have HN1 := Lib.hid (show some bk ≠ vb.ownBlock from fun e => by have := own_low' hD.ownS e.symm; omega)
              have HGO := Lib.hid (fun (w1 wz : World) (s : ByteArray) (g cap : Nat) (h0 : Only (fun _ => False) wr wz) (h1 : w1.ownsRow (Bd + 1) 9 1 (.slice (some ⟨g, 0, none⟩) (k + 1) cap) (k + 1) (srowS (bxTo cs ks n k) ++ [.string s])) (h2 : wz.grownBy w1 vb.ownBlock) (h3 : vb.ownBlock = some g ∨ g = wz.heap.size) => hD.box (bxTo_len cs ks n k) h0 h1 h2 h3)
              generalize ptAt ks k = c at *
              have hbw : bk < wr.heap.size := by have := HD.out.only.size; omega
              have i1 : (k : Int) < ks.length := by omega
              have i2 : 0 ≤ (k : Int) := by omega
              have k1 : IntKind.i64.wrap ((k : Int) + 1) = k + 1 := IntWalk.i64_in _ (by omega)
              obtain ⟨ac, cc, hvb⟩ := slice_of_own HOW.out
              generalize bxTo cs ks n k = X at *
              clear hl0 hcell hk hD hZ hpn hbo
              subst hvb
              generalize hvb : Value.slice ac k cc = vb at *
              have HVB := Lib.hid hvb
              clear hvb
              go_wp2_with fail
              refine wp_region_split 16 (by kernel_rfl) (by kernel_rfl) (wpAny_of_held (S := fun w' => w'.cell? ⟨Bd, 2, none⟩ = some vb ∧ w'.cell? ⟨bk, ok + k, none⟩ = some (.int .i64 c)) _ _ _ _ ?_)
              simp only [List.take_succ_cons, List.take_zero]
              change wpAnyH _ _ _ _ _ _ _ _ wr.drew
              have hHeld : wr.drew.cell? ⟨Bd, 2, none⟩ = some vb ∧ wr.drew.cell? ⟨bk, ok + k, none⟩ = some (.int .i64 c) := ⟨e0, e1⟩
              refine' wpAnyH_take (i := 0) (v := _) rfl (by kernel_rfl) (by kernel_rfl) (by kernel_rfl) (fun _ _ _ h => h) (Or.inl ⟨by rfl, ?hyb0⟩) hHeld ?rb0
              case hyb0 => (intro w hSw; obtain ⟨s0, s1⟩ := hSw; go_simp; with_reducible rfl)
              simp only [Act.put, List.getElem_toArray, List.getElem_cons_zero, List.setIfInBounds_toArray, List.set_cons_zero, List.set_cons_succ]
              refine' wpAnyH_take (i := 1) (v := _) rfl (by kernel_rfl) (by kernel_rfl) (by kernel_rfl) (fun _ _ _ h => h) (Or.inl ⟨by rfl, ?hyb1⟩) hHeld ?rb1
              case hyb1 => (intro w hSw; obtain ⟨s0, s1⟩ := hSw; go_simp; with_reducible rfl)
              simp only [Act.put, List.getElem_toArray, List.getElem_cons_zero, List.getElem_cons_succ, List.setIfInBounds_toArray, List.set_cons_zero, List.set_cons_succ]
              refine' wpAnyH_take (i := 2) (v := _) rfl (by kernel_rfl) (by kernel_rfl) (by kernel_rfl) (fun _ _ _ h => h) (Or.inl ⟨by rfl, ?hyb2⟩) hHeld ?rb2
              case hyb2 => (intro w hSw; obtain ⟨s0, s1⟩ := hSw; go_simp; with_reducible rfl)
              simp only [Act.put, List.getElem_toArray, List.getElem_cons_zero, List.getElem_cons_succ, List.setIfInBounds_toArray, List.set_cons_zero, List.set_cons_succ]
              refine' wpAnyH_take (i := 3) (v := _) rfl (by kernel_rfl) (by kernel_rfl) (by kernel_rfl) (fun _ _ _ h => h) (Or.inl ⟨by rfl, ?hyb3⟩) hHeld ?rb3
              case hyb3 => (intro w hSw; obtain ⟨s0, s1⟩ := hSw; go_simp; with_reducible rfl)
              simp only [Act.put, List.getElem_toArray, List.getElem_cons_zero, List.getElem_cons_succ, List.setIfInBounds_toArray, List.set_cons_zero, List.set_cons_succ]
              refine' wpAnyH_take (i := 4) (v := _) rfl (by kernel_rfl) (by kernel_rfl) (by kernel_rfl) (fun _ _ _ h => h) (Or.inl ⟨by rfl, ?hyb4⟩) hHeld ?rb4
              case hyb4 => (intro w hSw; obtain ⟨s0, s1⟩ := hSw; go_simp; with_reducible rfl)
              simp only [Act.put, List.getElem_toArray, List.getElem_cons_zero, List.getElem_cons_succ, List.setIfInBounds_toArray, List.set_cons_zero, List.set_cons_succ]
              try simp only [k1]
              refine' wpAnyH_take (i := 6) (v := _) rfl (by kernel_rfl) (by kernel_rfl) (by kernel_rfl) (fun _ _ _ h => h) (Or.inl ⟨by rfl, ?hyb6⟩) hHeld ?rb6
              case hyb6 => (intro w hSw; obtain ⟨s0, s1⟩ := hSw; go_simp; with_reducible rfl)
              simp only [Act.put, List.getElem_toArray, List.getElem_cons_zero, List.getElem_cons_succ, List.setIfInBounds_toArray, List.set_cons_zero, List.set_cons_succ]
              refine' wpAnyH_take (i := 7) (v := _) rfl (by kernel_rfl) (by kernel_rfl) (by kernel_rfl) (fun _ _ _ h => h) (Or.inl ⟨by rfl, ?hyb7⟩) hHeld ?rb7
              case hyb7 => (intro w hSw; obtain ⟨s0, s1⟩ := hSw; go_simp; with_reducible rfl)
              simp only [Act.put, List.getElem_toArray, List.getElem_cons_zero, List.getElem_cons_succ, List.setIfInBounds_toArray, List.set_cons_zero, List.set_cons_succ]
              refine' wpAnyH_take (i := 8) (v := _) rfl (by kernel_rfl) (by kernel_rfl) (by kernel_rfl) (fun _ _ _ h => h) (Or.inl ⟨by rfl, ?hyb8⟩) hHeld ?rb8
              case hyb8 => (intro w hSw; obtain ⟨s0, s1⟩ := hSw; go_simp; with_reducible rfl)
              simp only [Act.put, List.getElem_toArray, List.getElem_cons_zero, List.getElem_cons_succ, List.setIfInBounds_toArray, List.set_cons_zero, List.set_cons_succ]
              refine' wpAnyH_take (i := 9) (v := _) rfl (by kernel_rfl) (by kernel_rfl) (by kernel_rfl) (fun _ _ _ h => h) (Or.inl ⟨by rfl, ?hyb9⟩) hHeld ?rb9
              case hyb9 => (intro w hSw; obtain ⟨s0, s1⟩ := hSw; go_simp; with_reducible rfl)
              simp only [Act.put, List.getElem_toArray, List.getElem_cons_zero, List.getElem_cons_succ, List.setIfInBounds_toArray, List.set_cons_zero, List.set_cons_succ]
              refine' wpAnyH_take (i := 10) (v := _) rfl (by kernel_rfl) (by kernel_rfl) (by kernel_rfl) (fun _ _ _ h => h) (Or.inl ⟨by rfl, ?hyb10⟩) hHeld ?rb10
              case hyb10 => (intro w hSw; obtain ⟨s0, s1⟩ := hSw; go_simp; with_reducible rfl)
              simp only [Act.put, List.getElem_toArray, List.getElem_cons_zero, List.getElem_cons_succ, List.setIfInBounds_toArray, List.set_cons_zero, List.set_cons_succ]
              refine' wpAnyH_take (i := 12) (v := _) rfl (by kernel_rfl) (by kernel_rfl) (by kernel_rfl) (fun _ _ _ h => h) (Or.inl ⟨by rfl, ?hyb12⟩) hHeld ?rb12
              case hyb12 => (intro w hSw; obtain ⟨s0, s1⟩ := hSw; go_simp; with_reducible rfl)
              simp only [Act.put, List.getElem_toArray, List.getElem_cons_zero, List.getElem_cons_succ, List.setIfInBounds_toArray, List.set_cons_zero, List.set_cons_succ]
              refine wpAnyH_ready (rs := [5]) (by kernel_rfl) (by simp) ?_
              refine AllReadyH.cons rfl (fun K hK => ?_) AllReadyH.nil
              go_simp
              refine (rvalue_any _ cs ((k : Int) + 1) wr.drew HCS.out (by omega)).mono ?_
              rintro e w' ⟨rfl, n5, rfl⟩
              refine hK.out _ _ ⟨e0, e1⟩ (fun hHeld => ?_)
              clear hK K
              try simp only [Act.put, List.getElem_toArray, List.getElem_cons_zero, List.getElem_cons_succ, List.setIfInBounds_toArray, List.set_cons_zero, List.set_cons_succ]
              generalize valZ cs ((k : Int) + 1) = vz at *
              refine wpAnyH_ready (rs := [11]) (by kernel_rfl) (by simp) ?_
              refine AllReadyH.cons rfl (fun K hK => ?_) AllReadyH.nil
              go_simp
              refine (rpow_any c n 2305843009213691579 _ (by decide) (by decide) hn0 (by omega)).mono ?_
              rintro e w' ⟨rfl, rfl⟩
              refine hK.out _ _ ⟨e0, e1⟩ (fun hHeld => ?_)
              clear hK K
              try simp only [Act.put, List.getElem_toArray, List.getElem_cons_zero, List.getElem_cons_succ, List.setIfInBounds_toArray, List.set_cons_zero, List.set_cons_succ]
              rw [HPZ.out]
              refine wpAnyH_ready (rs := [13]) (by kernel_rfl) (by simp) ?_
              refine AllReadyH.cons rfl (fun K hK => ?_) AllReadyH.nil
              go_simp
              refine (rseal_any vz pn k _ HVZ.out.1 HVZ.out.2 HPN.out (by omega)).mono ?_
              rintro e w4 ⟨rfl, hO4⟩
              have HO4 := Lib.hid (show Only (fun _ => False) wr w4 from ((Only.refl (fun _ => False) wr).drewN (1 + n5)).trans hO4)
              have e04 := HO4.out.cell e0 (fun h => h)
              have e14 := HO4.out.cell e1 (fun h => h)
              clear hO4
              refine hK.out _ _ ⟨e04, e14⟩ (fun hHeld => ?_)
              clear hK K
              try simp only [Act.put, List.getElem_toArray, List.getElem_cons_zero, List.getElem_cons_succ, List.setIfInBounds_toArray, List.set_cons_zero, List.set_cons_succ]
              rw [HBO.out]
              have hsz4 := HO4.out.size
              refine wpAnyH_ready (rs := [14]) (by kernel_rfl) (by simp) ?_
              refine AllReadyH.cons rfl (fun K hK => ?_) AllReadyH.nil
              go_simp
              have HOA := Lib.hid ((Only.refl (fun _ => False) w4).alloc (.cells #[.string bo] 9))
              refine hK.out _ _ ⟨HOA.out.cell e04 (fun h => h), HOA.out.cell e14 (fun h => h)⟩ (fun hHeld => ?_)
              clear hK K
              refine wpAnyH_ready (rs := [15]) (by kernel_rfl) (by simp) ?_
              refine AllReadyH.cons rfl (fun K hK => ?_) AllReadyH.nil
              refine step_append_lies _ rfl _ _ 70 rfl (Bd + 1) 9 j0 _ 1 16 Tryz.underlying70 hj0 hy0 hy1 hy2 rfl (by decide) vb k (srowS X) rfl (HOA.out.owns (HO4.out.owns HOW.out (fun _ _ h => h)) (fun _ _ h => h)) ⟨w4.heap.size, 0, none⟩ 1 1 [.string bo] rfl rfl (World.news_of_block (cs := #[.string bo]) (t := 9) (fr := (0, 0)) (heap_alloc_new w4 _)) (one_str _) (by decide) (by unfold maxLen; omega) (by omega) (by simp; omega) _ rfl ?_
              intro g cap w1 hown1 hgrow hat hlt1
              refine hK.out _ _ ⟨hgrow.cell (HOA.out.cell e04 (fun h => h)) HN0.out, hgrow.cell (HOA.out.cell e14 (fun h => h)) HN1.out⟩ (fun hHeld => ?_)
              clear hK K
              refine wpAnyH_done (by kernel_rfl) ?_ _
              simp only [headPost, Act.put, List.getElem_toArray, List.getElem_cons_zero, List.getElem_cons_succ, List.setIfInBounds_toArray, List.set_cons_zero, List.set_cons_succ, List.drop_succ_cons, List.drop_zero]
              obtain ⟨hbl1, hdn⟩ := HGO.out _ _ _ _ _ (HO4.out.trans HOA.out) hown1 hgrow (by simpa using hat)
              have HDN := Lib.hid hdn
              have HZN := Lib.hid (show (w1.setCell ⟨Bd, 2, none⟩ (.slice (some ⟨g, 0, none⟩) (k + 1) cap)).heap[w.heap.size]? = some (.cells #[.slice none 0 0, .int .i64 0, .slice none 0 0] 72 (0, 0)) by
                rw [heap_setCell_other _ _ _ _ (by show w.heap.size ≠ Bd; omega)]
                have hO := (Only.refl (fun i => vb.ownBlock = some i) _).grown hgrow (fun i e _ => e)
                have hw := (Array.getElem?_eq_some_iff.1 HZ.out).1
                rw [hO.block w.heap.size (by have := HOA.out.size; omega) (fun e => by have := own_low' HOW.out e; omega)]
                exact row_still (HO4.out.trans HOA.out) HZ.out)
              have c1 := cell_of_row _ _ 2 _ _ _ hbl1
              have f1 := frozen_of_row _ _ 2 _ _ hbl1
              have l1 := (Array.getElem?_eq_some_iff.1 hbl1).1
              clear hown1 hgrow hat hdn hbl1 e0 e1 hHeld e04 e14
              go_wp2
              go_roundw
              case rel => exact ⟨k + 1, .slice (some ⟨g, 0, none⟩) (k + 1) cap, by omega, by go_num, by rw [HBX.out]; exact HDN.out, HZN.out⟩
              case measure => simp [intOf]; omega
            · obtain rfl : k = ks.length := by omega
              have i1 : ¬ (ks.length : Int) < ks.length := by omega
              have HBK := Lib.hid hD.blk
              have HPOST := Lib.hid (show ∀ w3, Only (fun k => k = w.heap.size) wr w3 → DealPost w (dealZ cs ks seed) (.returned (.tuple #[.agg #[vc, .int .i64 p, vb], .bool true])) w3 from fun w3 hO3 => ⟨hD.only.trans' hO3 (fun i hi e => by omega), vc, vb, by rw [HDZ.out], by
                rw [HDZ.out]
                exact ⟨own_base (hO3.owns hD.own (fun g hg e => by have := own_low' hD.own hg; omega)) (by omega), own_base (hO3.owns hD.ownS (fun g hg e => by have := own_low' hD.ownS hg; omega)) (by omega)⟩⟩)
              have HO13 := Lib.hid (slice_one hD.own hD.ownS p)
              clear hlt hk hD hZ
              go_wp2_with (first | (refine wpList_load_row rfl 72 _ rfl Bd rfl 72 #[vc, .int .i64 p, vb] (0, 0) _ HBK.out Tryz.underlying72 rfl Tryz.infoD ?_) | (refine wpList_store_row rfl 72 _ _ rfl w.heap.size #[vc, .int .i64 p, vb] rfl rfl 72 _ HZ.out Tryz.infoD rfl HO13.out ?_))
              refine bodyPost_ret (v := .tuple #[.agg #[vc, .int .i64 p, vb], .bool true]) (results_cell_tmp (p := 6) (q := 7) rfl _ _ w.heap.size 72 #[vc, .int .i64 p, vb] (0, 0) _ rfl (setRow_heap _ _ _ _ _ _ HZ.out) Tryz.underlying72 rfl Tryz.infoD _ rfl) rfl (HPOST.out _ ?_)
              exact (Only.refl (fun k => k = w.heap.size) wr).trans' (T := fun k => k = w.heap.size) ⟨rfl, rfl, rfl, by simp, fun k _ hk => heap_setRow_other _ _ _ _ hk⟩ (fun _ _ e => e)
end Go.Proofs.YtalclldccnichaaGreat
