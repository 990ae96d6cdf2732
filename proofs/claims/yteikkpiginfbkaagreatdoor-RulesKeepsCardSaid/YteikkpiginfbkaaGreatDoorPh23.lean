/-
  Rules, plain: the text of a right draw is read as this draw; the length of such a text; Print.
  Rules, the reference's numbers: Parse; numeral and amount.
  Rules: the listed variables; the program's text and right.
-/
import Derived.Test.YteikkpiginfbkaaGreatDoorPh21
import Derived.Test.YteikkpiginfbkaaGreatDoorPh15
import Derived.Test.YteikkpiginfbkaaGreatDoorPh22
import Derived.Lib.ItoaLen
namespace Go.Proofs.YteikkpiginfbkaaGreatDoor
open Go.RowKit

theorem rg_le {z : Int} (h : rgB z = true) : 0 ≤ z ∧ z ≤ 1000000000 := by
  unfold rgB at h
  rw [Bool.and_eq_true, decide_eq_true_eq, decide_eq_true_eq] at h
  exact h
theorem dec_rg {z : Int} (h : rgB z = true) : amtV (decW z) = z := dec_amt (rg_le h).1 (rg_le h).2
theorem small_all {ws : List ByteArray} (h : ∀ w ∈ ws, numB w = true → amtV w ≤ 1000000000) : smallB ws = true := by
  unfold smallB
  rw [List.all_eq_true]
  intro w hw
  cases hn : numB w with
  | false => rfl
  | true => simpa using h w hw hn
theorem small_dec {n : ByteArray} (hn : numB n = false) {z : Int} (h : rgB z = true) : smallB [n, decW z] = true := small_all fun w hw hnw => by
  simp only [List.mem_cons, List.not_mem_nil, or_false] at hw
  rcases hw with rfl | rfl
  · rw [hn] at hnw; cases hnw
  · rw [dec_rg h]; exact (rg_le h).2
theorem small_dec2 {n : ByteArray} (hn : numB n = false) {z y : Int} (h : rgB z = true) (h' : rgB y = true) : smallB [n, decW z, decW y] = true := small_all fun w hw hnw => by
  simp only [List.mem_cons, List.not_mem_nil, or_false] at hw
  rcases hw with rfl | rfl | rfl
  · rw [hn] at hnw; cases hnw
  · rw [dec_rg h]; exact (rg_le h).2
  · rw [dec_rg h']; exact (rg_le h').2
theorem name_not_num {s : ByteArray} (h : nameB s = true) : numB s = false := by
  cases hn : numB s with
  | false => rfl
  | true => rw [num_not_name hn] at h; cases h
theorem small_nd {n m : ByteArray} (hn : numB n = false) (hm : numB m = false) {z : Int} (h : rgB z = true) : smallB [n, m, decW z] = true := small_all fun w hw hnw => by
  simp only [List.mem_cons, List.not_mem_nil, or_false] at hw
  rcases hw with rfl | rfl | rfl
  · rw [hn] at hnw; cases hnw
  · rw [hm] at hnw; cases hnw
  · rw [dec_rg h]; exact (rg_le h).2
theorem small_ndd {n m : ByteArray} (hn : numB n = false) (hm : numB m = false) {z y : Int} (h : rgB z = true) (h' : rgB y = true) : smallB [n, m, decW z, decW y] = true := small_all fun w hw hnw => by
  simp only [List.mem_cons, List.not_mem_nil, or_false] at hw
  rcases hw with rfl | rfl | rfl | rfl
  · rw [hn] at hnw; cases hnw
  · rw [hm] at hnw; cases hnw
  · rw [dec_rg h]; exact (rg_le h).2
  · rw [dec_rg h']; exact (rg_le h').2
theorem small_nn {n m : ByteArray} (hn : numB n = false) (hm : numB m = false) : smallB [n, m] = true := small_all fun w hw hnw => by
  simp only [List.mem_cons, List.not_mem_nil, or_false] at hw
  rcases hw with rfl | rfl
  · rw [hn] at hnw; cases hnw
  · rw [hm] at hnw; cases hnw
theorem line_of {t t' : St} {ws : List ByteArray} {k : Nat} (hk : keyOf (wAt ws 0) = k) (h : lnOf t ws k = (0, t')) : lineZ t ws = (0, { t' with lines := t.lines + 1 }) := by
  subst hk
  rw [line_ok (by rw [h]), h]
theorem fb2n {a b : ByteArray} (ha : nameB a = true) (hb : nameB b = true) : fitB [true, true] [a, b] = true := by simp [fitB, ha, hb]
theorem fb1 {a : ByteArray} (ha : nameB a = true) : fitB [true] [a] = true := by simp [fitB, ha]
theorem fb2 {a b : ByteArray} (ha : nameB a = true) (hb : numB b = true) : fitB [true, false] [a, b] = true := by simp [fitB, ha, hb]
theorem fb3 {a b c : ByteArray} (ha : nameB a = true) (hb : numB b = true) (hc : numB c = true) : fitB [true, false, false] [a, b, c] = true := by simp [fitB, ha, hb, hc]
theorem fb3n {a b c : ByteArray} (ha : nameB a = true) (hb : nameB b = true) (hc : numB c = true) : fitB [true, true, false] [a, b, c] = true := by simp [fitB, ha, hb, hc]
theorem fb4 {a b c e : ByteArray} (ha : nameB a = true) (hb : nameB b = true) (hc : numB c = true) (he : numB e = true) : fitB [true, true, false, false] [a, b, c, e] = true := by simp [fitB, ha, hb, hc, he]
theorem ln_draw {t : St} {n : ByteArray} (hl : t.lines = 0) (hn : nameB n = true) : lineZ t [kDraw, n] = (0, { t with d := { t.d with name := n }, lines := t.lines + 1 }) :=
  line_of (k := 0) rfl (headTo_z (headZ_iff.2 ⟨hl, fb2n (by decide) hn, small_nn (by decide) (name_not_num hn)⟩))
theorem ln_lottery {t : St} {x y : Int} (hl : t.lines = 1) (hx : rgB x = true) (hy : rgB y = true) : lineZ t [kLottery, decW x, decW y] = (0, { t with d := { t.d with kind := 1, pool := x, pick := y }, lines := t.lines + 1 }) := by
  have h := line_of (t := t) (ws := [kLottery, decW x, decW y]) (k := 1) rfl (headTo_z (headZ_iff.2 ⟨hl, fb3 (by decide) (dec_num x) (dec_num y), small_dec2 (by decide) hx hy⟩))
  rw [show aAt [kLottery, decW x, decW y] 1 = x from dec_rg hx, show aAt [kLottery, decW x, decW y] 2 = y from dec_rg hy] at h
  exact h
theorem ln_ballot {t : St} {x : Int} (hl : t.lines = 1) (hx : rgB x = true) : lineZ t [kBallot, decW x] = (0, { t with d := { t.d with kind := 2, cls := x }, lines := t.lines + 1 }) := by
  have h := line_of (t := t) (ws := [kBallot, decW x]) (k := 2) rfl (headTo_z (headZ_iff.2 ⟨hl, fb2 (by decide) (dec_num x), small_dec (by decide) hx⟩))
  rw [show aAt [kBallot, decW x] 1 = x from dec_rg hx] at h
  exact h
theorem ln_panel {t : St} {x : Int} (hl : t.lines = 1) (hx : rgB x = true) : lineZ t [kPanel, decW x] = (0, { t with d := { t.d with kind := 3, size := x }, lines := t.lines + 1 }) := by
  have h := line_of (t := t) (ws := [kPanel, decW x]) (k := 3) rfl (headTo_z (headZ_iff.2 ⟨hl, fb2 (by decide) (dec_num x), small_dec (by decide) hx⟩))
  rw [show aAt [kPanel, decW x] 1 = x from dec_rg hx] at h
  exact h
theorem ln_round {t : St} {x : Int} (hl : t.lines = 2) (hx : rgB x = true) : lineZ t [kRound, decW x] = (0, { t with d := { t.d with round := x }, lines := t.lines + 1 }) := by
  have h := line_of (t := t) (ws := [kRound, decW x]) (k := 4) rfl (headTo_z (headZ_iff.2 ⟨hl, fb2 (by decide) (dec_num x), small_dec (by decide) hx⟩))
  rw [show aAt [kRound, decW x] 1 = x from dec_rg hx] at h
  exact h
theorem ln_price {t : St} {x : Int} (hl : t.lines = 3) (hx : rgB x = true) : lineZ t [kPrice, decW x] = (0, { t with d := { t.d with price := x }, lines := t.lines + 1 }) := by
  have h := line_of (t := t) (ws := [kPrice, decW x]) (k := 5) rfl (headTo_z (headZ_iff.2 ⟨hl, fb2 (by decide) (dec_num x), small_dec (by decide) hx⟩))
  rw [show aAt [kPrice, decW x] 1 = x from dec_rg hx] at h
  exact h
theorem addTo_z {e : Int} {n m : Nat} {t t' : St} {b : Bool} (h : e = 0) (h1 : b = false) (h2 : n < m) : addTo e b n m t t' = (0, t') := by
  subst h1
  unfold addTo
  rw [if_pos h, if_neg (by decide), if_pos h2]
theorem ln_tier {t : St} {x : Int × Int} (hl : 4 ≤ t.lines) (hb : t.barred = false) (hk : t.d.kind = 1) (hr : t.rolled = false) (hx : rgB x.1 = true) (hy : rgB x.2 = true) (ht : hasTier t.d.tiers x.1 = false) (hn : t.d.tiers.length < 12) :
    lineZ t (tierL x) = (0, { t with d := { t.d with tiers := t.d.tiers ++ [x] }, lines := t.lines + 1 }) := by
  have e1 : aAt (tierL x) 1 = x.1 := dec_rg hx
  have e2 : aAt (tierL x) 2 = x.2 := dec_rg hy
  have h := line_of (t := t) (ws := tierL x) (k := 6) rfl (addTo_z (specZ_iff.2 ⟨hl, fb3 (by decide) (dec_num x.1) (dec_num x.2), hb, hk, hr, small_dec2 (by decide) hx hy⟩) (by rw [e1]; exact ht) hn)
  rw [e1, e2] at h
  exact h
theorem ln_roll {t : St} (hl : 4 ≤ t.lines) (hb : t.barred = false) (hk : t.d.kind = 1) (hr : t.rolled = false) : lineZ t [kRoll] = (0, { t with d := { t.d with roll := true }, rolled := true, lines := t.lines + 1 }) :=
  line_of (k := 7) rfl (headTo_z (specZ_iff.2 ⟨hl, fb1 (by decide), hb, hk, hr, by decide⟩))
theorem ln_place {t : St} {x : ByteArray × Int} (hl : 4 ≤ t.lines) (hb : t.barred = false) (hk : t.d.kind = 2) (hr : t.rolled = false) (hx : nameB x.1 = true) (hy : rgB x.2 = true) (ht : hasPlace t.d.places x.1 = false) (hn : t.d.places.length < 12) :
    lineZ t (placeL x) = (0, { t with d := { t.d with places := t.d.places ++ [x] }, lines := t.lines + 1 }) := by
  have e2 : aAt (placeL x) 2 = x.2 := dec_rg hy
  have h := line_of (t := t) (ws := placeL x) (k := 8) rfl (addTo_z (specZ_iff.2 ⟨hl, fb3n (by decide) hx (dec_num x.2), hb, hk, hr, small_nd (by decide) (name_not_num hx) hy⟩) (by exact ht) hn)
  rw [e2] at h
  exact h
theorem ln_quota {t : St} {x : ByteArray × Int × Int} (hl : 4 ≤ t.lines) (hb : t.barred = false) (hk : t.d.kind = 3) (hr : t.rolled = false) (hx : nameB x.1 = true) (hy : rgB x.2.1 = true) (hz : rgB x.2.2 = true) (ht : hasQuota t.d.quotas x.1 = false) (hn : t.d.quotas.length < 12) :
    lineZ t (quotaL x) = (0, { t with d := { t.d with quotas := t.d.quotas ++ [x] }, lines := t.lines + 1 }) := by
  have e2 : aAt (quotaL x) 2 = x.2.1 := dec_rg hy
  have e3 : aAt (quotaL x) 3 = x.2.2 := dec_rg hz
  have h := line_of (t := t) (ws := quotaL x) (k := 9) rfl (addTo_z (specZ_iff.2 ⟨hl, fb4 (by decide) hx (dec_num x.2.1) (dec_num x.2.2), hb, hk, hr, small_ndd (by decide) (name_not_num hx) hy hz⟩) (by exact ht) hn)
  rw [e2, e3] at h
  exact h
theorem ln_bar {t : St} {x : Int} (hl : 4 ≤ t.lines) (hx : rgB x = true) (ht : hasBar t.d.barred x = false) (hn : t.d.barred.length < 40) :
    lineZ t (barL x) = (0, { t with d := { t.d with barred := t.d.barred ++ [x] }, barred := true, lines := t.lines + 1 }) := by
  have e1 : aAt (barL x) 1 = x := dec_rg hx
  have h := line_of (t := t) (ws := barL x) (k := 10) rfl (addTo_z (barZ_iff.2 ⟨hl, fb2 (by decide) (dec_num x), small_dec (by decide) hx⟩) (by rw [e1]; exact ht) hn)
  rw [e1] at h
  exact h
theorem take_snoc {α : Type} {l : List α} {k : Nat} (h : k < l.length) : l.take (k + 1) = l.take k ++ [l[k]] := List.take_succ_eq_append_getElem h
/-- A state that holds parts of a draw. -/
def stW (d : Dr) (a : List (Int × Int)) (r : Bool) (b : List (ByteArray × Int)) (c : List (ByteArray × Int × Int)) (e : List Int) (n : Int) : St :=
  ⟨{ d with tiers := a, roll := r, places := b, quotas := c, barred := e }, n, r, !e.isEmpty⟩
theorem go_head {d : Dr} (h : Right d) : goL st0 (headL d) = (0, stW d [] false [] [] [] 4) := by
  unfold headL
  rw [goL_cons (ln_draw rfl h.name)]
  rcases owns_k h.owns with hk | hk | hk
  · obtain ⟨o1, o2, o3, o4⟩ := (owns_1 hk).1 h.owns
    rw [show kindL d = [[kLottery, decW d.pool, decW d.pick]] by unfold kindL; rw [if_pos hk]]
    show goL _ ([kLottery, decW d.pool, decW d.pick] :: [kRound, decW d.round] :: [[kPrice, decW d.price]]) = _
    rw [goL_cons (ln_lottery rfl h.pool h.pick), goL_cons (ln_round rfl h.round), goL_cons (ln_price rfl h.price)]
    clear h
    obtain ⟨nm, kd, ro, pr, po, pi, ti, rl, pl, cl, sz, qu, ba⟩ := d
    dsimp only at hk o1 o3
    subst hk o1 o3
    rfl
  · obtain ⟨o1, o2, o3, o4, o5, o6⟩ := (owns_2 hk).1 h.owns
    rw [show kindL d = [[kBallot, decW d.cls]] by unfold kindL; rw [if_neg (by rw [hk]; decide), if_pos hk]]
    show goL _ ([kBallot, decW d.cls] :: [kRound, decW d.round] :: [[kPrice, decW d.price]]) = _
    rw [goL_cons (ln_ballot rfl h.cls), goL_cons (ln_round rfl h.round), goL_cons (ln_price rfl h.price)]
    clear h
    obtain ⟨nm, kd, ro, pr, po, pi, ti, rl, pl, cl, sz, qu, ba⟩ := d
    dsimp only at hk o1 o2 o5
    subst hk o1 o2 o5
    rfl
  · obtain ⟨o1, o2, o3, o4, o5, o6⟩ := (owns_3 hk).1 h.owns
    rw [show kindL d = [[kPanel, decW d.size]] by unfold kindL; rw [if_neg (by rw [hk]; decide), if_neg (by rw [hk]; decide), if_pos hk]]
    show goL _ ([kPanel, decW d.size] :: [kRound, decW d.round] :: [[kPrice, decW d.price]]) = _
    rw [goL_cons (ln_panel rfl h.size), goL_cons (ln_round rfl h.round), goL_cons (ln_price rfl h.price)]
    clear h
    obtain ⟨nm, kd, ro, pr, po, pi, ti, rl, pl, cl, sz, qu, ba⟩ := d
    dsimp only at hk o1 o2 o5
    subst hk o1 o2 o5
    rfl
theorem tier_kind {d : Dr} (h : Right d) (hp : 0 < d.tiers.length) : d.kind = 1 := by
  rcases owns_k h.owns with hk | hk | hk
  · exact hk
  · rw [((owns_2 hk).1 h.owns).2.2.1] at hp; cases hp
  · rw [((owns_3 hk).1 h.owns).2.2.1] at hp; cases hp
theorem roll_kind {d : Dr} (h : Right d) (hp : d.roll = true) : d.kind = 1 := by
  rcases owns_k h.owns with hk | hk | hk
  · exact hk
  · rw [((owns_2 hk).1 h.owns).2.2.2.1] at hp; cases hp
  · rw [((owns_3 hk).1 h.owns).2.2.2.1] at hp; cases hp
theorem place_kind {d : Dr} (h : Right d) (hp : 0 < d.places.length) : d.kind = 2 ∧ d.roll = false := by
  rcases owns_k h.owns with hk | hk | hk
  · rw [((owns_1 hk).1 h.owns).2.1] at hp; cases hp
  · exact ⟨hk, ((owns_2 hk).1 h.owns).2.2.2.1⟩
  · rw [((owns_3 hk).1 h.owns).2.2.2.2.2] at hp; cases hp
theorem quota_kind {d : Dr} (h : Right d) (hp : 0 < d.quotas.length) : d.kind = 3 ∧ d.roll = false := by
  rcases owns_k h.owns with hk | hk | hk
  · rw [((owns_1 hk).1 h.owns).2.2.2] at hp; cases hp
  · rw [((owns_2 hk).1 h.owns).2.2.2.2.2] at hp; cases hp
  · exact ⟨hk, ((owns_3 hk).1 h.owns).2.2.2.1⟩
theorem tierOk_at {l : List (Int × Int)} {i : Nat} (h : i < l.length) (h2 : tierOk l i = true) : rgB l[i].1 = true ∧ rgB l[i].2 = true ∧ hasTier (l.take i) l[i].1 = false := by
  unfold tierOk tAt at h2
  have e : l.getD i (0, 0) = l[i] := by simp [List.getD, h]
  rw [e] at h2
  simp only [Bool.and_eq_true, Bool.not_eq_true'] at h2
  exact ⟨h2.1.1, h2.1.2, h2.2⟩
theorem placeOk_at {l : List (ByteArray × Int)} {i : Nat} (h : i < l.length) (h2 : placeOk l i = true) : nameB l[i].1 = true ∧ rgB l[i].2 = true ∧ hasPlace (l.take i) l[i].1 = false := by
  unfold placeOk pAt at h2
  have e : l.getD i (ByteArray.empty, 0) = l[i] := by simp [List.getD, h]
  rw [e] at h2
  simp only [Bool.and_eq_true, Bool.not_eq_true'] at h2
  exact ⟨h2.1.1, h2.1.2, h2.2⟩
theorem quotaOk_at {l : List (ByteArray × Int × Int)} {i : Nat} (h : i < l.length) (h2 : quotaOk l i = true) : nameB l[i].1 = true ∧ rgB l[i].2.1 = true ∧ rgB l[i].2.2 = true ∧ hasQuota (l.take i) l[i].1 = false := by
  unfold quotaOk qAt at h2
  have e : l.getD i (ByteArray.empty, 0, 0) = l[i] := by simp [List.getD, h]
  rw [e] at h2
  simp only [Bool.and_eq_true, Bool.not_eq_true'] at h2
  exact ⟨h2.1.1.1, h2.1.1.2, h2.1.2, h2.2⟩
theorem barOk_at {l : List Int} {i : Nat} (h : i < l.length) (h2 : barOk l i = true) : hasBar (l.take i) l[i] = false := by
  unfold barOk ptAt at h2
  have e : l.getD i 0 = l[i] := by simp [List.getD, h]
  rw [e] at h2
  simpa using h2
theorem take_len {α : Type} {l : List α} {k : Nat} (h : k < l.length) : (l.take k).length = k := by rw [List.length_take]; omega
theorem go_tiers {d : Dr} (h : Right d) : ∀ k, k ≤ d.tiers.length → goL (stW d [] false [] [] [] 4) ((d.tiers.take k).map tierL) = (0, stW d (d.tiers.take k) false [] [] [] (4 + k))
  | 0, _ => rfl
  | k + 1, hk => by
    have hlt : k < d.tiers.length := by omega
    have ih := go_tiers h k (by omega)
    obtain ⟨h1, h2, h3⟩ := tierOk_at hlt (h.tiers k hlt)
    have := h.t12
    rw [take_snoc hlt, List.map_append, goL_app (by rw [ih]), ih, List.map_singleton, goL_cons (ln_tier (by show (4 : Int) ≤ 4 + k; omega) rfl (show d.kind = 1 from tier_kind h (by omega)) rfl h1 h2 h3 (by show (d.tiers.take k).length < 12; rw [take_len hlt]; omega))]
    show (0, _) = (0, _)
    unfold stW
    congr 2
    all_goals (show (4 + (k : Int)) + 1 = 4 + ((k + 1 : Nat) : Int); omega)
theorem go_roll {d : Dr} (h : Right d) (n : Int) (hn : 4 ≤ n) : ∃ m, n ≤ m ∧ goL (stW d d.tiers false [] [] [] n) (rollL d.roll) = (0, stW d d.tiers d.roll [] [] [] m) := by
  unfold rollL
  cases hr : d.roll with
  | false => exact ⟨n, Int.le_refl _, rfl⟩
  | true =>
    refine ⟨n + 1, by omega, ?_⟩
    rw [if_pos rfl, goL_cons (ln_roll hn rfl (show d.kind = 1 from roll_kind h hr) rfl)]
    rfl
theorem go_places {d : Dr} (h : Right d) (n : Int) (hn : 4 ≤ n) : ∀ k, k ≤ d.places.length → goL (stW d d.tiers d.roll [] [] [] n) ((d.places.take k).map placeL) = (0, stW d d.tiers d.roll (d.places.take k) [] [] (n + k))
  | 0, _ => by show (0, _) = (0, _); rw [show n + ((0 : Nat) : Int) = n by simp]; rfl
  | k + 1, hk => by
    have hlt : k < d.places.length := by omega
    have ih := go_places h n hn k (by omega)
    obtain ⟨h1, h2, h3⟩ := placeOk_at hlt (h.places k hlt)
    obtain ⟨k1, k2⟩ := place_kind h (by omega)
    have := h.p12
    rw [take_snoc hlt, List.map_append, goL_app (by rw [ih]), ih, List.map_singleton, goL_cons (ln_place (by show (4 : Int) ≤ n + k; omega) rfl k1 k2 h1 h2 h3 (by show (d.places.take k).length < 12; rw [take_len hlt]; omega))]
    show (0, _) = (0, _)
    unfold stW
    congr 2
    all_goals (show (n + (k : Int)) + 1 = n + ((k + 1 : Nat) : Int); omega)
theorem go_quotas {d : Dr} (h : Right d) (n : Int) (hn : 4 ≤ n) : ∀ k, k ≤ d.quotas.length → goL (stW d d.tiers d.roll d.places [] [] n) ((d.quotas.take k).map quotaL) = (0, stW d d.tiers d.roll d.places (d.quotas.take k) [] (n + k))
  | 0, _ => by show (0, _) = (0, _); rw [show n + ((0 : Nat) : Int) = n by simp]; rfl
  | k + 1, hk => by
    have hlt : k < d.quotas.length := by omega
    have ih := go_quotas h n hn k (by omega)
    obtain ⟨h1, h2, h3, h4⟩ := quotaOk_at hlt (h.quotas k hlt)
    obtain ⟨k1, k2⟩ := quota_kind h (by omega)
    have := h.q12
    rw [take_snoc hlt, List.map_append, goL_app (by rw [ih]), ih, List.map_singleton, goL_cons (ln_quota (by show (4 : Int) ≤ n + k; omega) rfl k1 k2 h1 h2 h3 h4 (by show (d.quotas.take k).length < 12; rw [take_len hlt]; omega))]
    show (0, _) = (0, _)
    unfold stW
    congr 2
    all_goals (show (n + (k : Int)) + 1 = n + ((k + 1 : Nat) : Int); omega)
theorem not_empty_snoc {α : Type} (l : List α) (x : α) : (!(l ++ [x]).isEmpty) = true := by cases l <;> rfl
theorem go_bars {d : Dr} (h : Right d) (n : Int) (hn : 4 ≤ n) : ∀ k, k ≤ d.barred.length → goL (stW d d.tiers d.roll d.places d.quotas [] n) ((d.barred.take k).map barL) = (0, stW d d.tiers d.roll d.places d.quotas (d.barred.take k) (n + k))
  | 0, _ => by show (0, _) = (0, _); rw [show n + ((0 : Nat) : Int) = n by simp]; rfl
  | k + 1, hk => by
    have hlt : k < d.barred.length := by omega
    have ih := go_bars h n hn k (by omega)
    have h1 := barOk_at hlt (h.bars k hlt)
    have h2 := h.barR _ (List.getElem_mem hlt)
    have := h.b40
    rw [take_snoc hlt, List.map_append, goL_app (by rw [ih]), ih, List.map_singleton, goL_cons (ln_bar (by show (4 : Int) ≤ n + k; omega) h2 h1 (by show (d.barred.take k).length < 40; rw [take_len hlt]; omega))]
    show (0, _) = (0, _)
    unfold stW
    rw [not_empty_snoc]
    congr 2
    all_goals (show (n + (k : Int)) + 1 = n + ((k + 1 : Nat) : Int); omega)
theorem go_lines {d : Dr} (h : Right d) : ∃ m, 4 ≤ m ∧ goL st0 (lnsZ d) = (0, ⟨d, m, d.roll, !d.barred.isEmpty⟩) := by
  unfold lnsZ restL
  have h1 := go_tiers h d.tiers.length (Nat.le_refl _)
  rw [List.take_length] at h1
  obtain ⟨m, hm, h2⟩ := go_roll h (4 + d.tiers.length) (by omega)
  have h3 := go_places h m (by omega) d.places.length (Nat.le_refl _)
  rw [List.take_length] at h3
  have h4 := go_quotas h (m + d.places.length) (by omega) d.quotas.length (Nat.le_refl _)
  rw [List.take_length] at h4
  have h5 := go_bars h (m + d.places.length + d.quotas.length) (by omega) d.barred.length (Nat.le_refl _)
  rw [List.take_length] at h5
  refine ⟨m + d.places.length + d.quotas.length + d.barred.length, by omega, ?_⟩
  rw [goL_app (by rw [go_head h]), go_head h, goL_app (by rw [h1]), h1, goL_app (by rw [h2]), h2, goL_app (by rw [h3]), h3, goL_app (by rw [h4]), h4, h5]
  rfl
theorem clean_2 {a b : ByteArray} (ha : clean a) (hb : clean b) : [a, b] ≠ [] ∧ ∀ w ∈ [a, b], clean w := ⟨by simp, fun w hw => by
  simp only [List.mem_cons, List.not_mem_nil, or_false] at hw
  rcases hw with rfl | rfl
  · exact ha
  · exact hb⟩
theorem clean_3 {a b c : ByteArray} (ha : clean a) (hb : clean b) (hc : clean c) : [a, b, c] ≠ [] ∧ ∀ w ∈ [a, b, c], clean w := ⟨by simp, fun w hw => by
  simp only [List.mem_cons, List.not_mem_nil, or_false] at hw
  rcases hw with rfl | rfl | rfl
  · exact ha
  · exact hb
  · exact hc⟩
theorem clean_4 {a b c e : ByteArray} (ha : clean a) (hb : clean b) (hc : clean c) (he : clean e) : [a, b, c, e] ≠ [] ∧ ∀ w ∈ [a, b, c, e], clean w := ⟨by simp, fun w hw => by
  simp only [List.mem_cons, List.not_mem_nil, or_false] at hw
  rcases hw with rfl | rfl | rfl | rfl
  · exact ha
  · exact hb
  · exact hc
  · exact he⟩
theorem key_clean (k : Nat) (hk : k < 11) : clean (keyW k) := name_clean (key_nameB k hk)
theorem clean_app {a b : List (List ByteArray)} (ha : cleanL a) (hb : cleanL b) : cleanL (a ++ b) := fun ws hw => by
  rcases List.mem_append.1 hw with h | h
  · exact ha ws h
  · exact hb ws h
theorem clean_cons {a : List ByteArray} {b : List (List ByteArray)} (ha : a ≠ [] ∧ ∀ w ∈ a, clean w) (hb : cleanL b) : cleanL (a :: b) := fun ws hw => by
  rcases List.mem_cons.1 hw with rfl | h
  · exact ha
  · exact hb ws h
theorem clean_nil : cleanL [] := fun ws hw => by cases hw
theorem lines_clean {d : Dr} (hn : nameB d.name = true) (hp : ∀ x ∈ d.places, nameB x.1 = true) (hq : ∀ x ∈ d.quotas, nameB x.1 = true) : cleanL (lnsZ d) := by
  unfold lnsZ restL headL
  refine clean_app (clean_cons (clean_2 (key_clean 0 (by decide)) (name_clean hn)) (clean_app ?_ (clean_cons (clean_2 (key_clean 4 (by decide)) (dec_clean _)) (clean_cons (clean_2 (key_clean 5 (by decide)) (dec_clean _)) clean_nil)))) (clean_app ?_ (clean_app ?_ (clean_app ?_ (clean_app ?_ ?_))))
  · unfold kindL
    split
    · exact clean_cons (clean_3 (key_clean 1 (by decide)) (dec_clean _) (dec_clean _)) clean_nil
    · split
      · exact clean_cons (clean_2 (key_clean 2 (by decide)) (dec_clean _)) clean_nil
      · split
        · exact clean_cons (clean_2 (key_clean 3 (by decide)) (dec_clean _)) clean_nil
        · exact clean_nil
  · intro ws hw
    obtain ⟨x, _, rfl⟩ := List.mem_map.1 hw
    exact clean_3 (key_clean 6 (by decide)) (dec_clean _) (dec_clean _)
  · unfold rollL
    split
    · exact clean_cons ⟨by simp, fun w hw => by rw [List.mem_singleton.1 hw]; exact key_clean 7 (by decide)⟩ clean_nil
    · exact clean_nil
  · intro ws hw
    obtain ⟨x, hx, rfl⟩ := List.mem_map.1 hw
    exact clean_3 (key_clean 8 (by decide)) (name_clean (hp x hx)) (dec_clean _)
  · intro ws hw
    obtain ⟨x, hx, rfl⟩ := List.mem_map.1 hw
    exact clean_4 (key_clean 9 (by decide)) (name_clean (hq x hx)) (dec_clean _) (dec_clean _)
  · intro ws hw
    obtain ⟨x, hx, rfl⟩ := List.mem_map.1 hw
    exact clean_2 (key_clean 10 (by decide)) (dec_clean _)
theorem right_clean {d : Dr} (h : Right d) : cleanL (lnsZ d) := lines_clean h.name
  (fun x hx => by obtain ⟨j, hj, rfl⟩ := List.getElem_of_mem hx; exact (placeOk_at hj (h.places j hj)).1)
  (fun x hx => by obtain ⟨j, hj, rfl⟩ := List.getElem_of_mem hx; exact (quotaOk_at hj (h.quotas j hj)).1)
theorem runL_write {d : Dr} (h : Right d) : ∃ t, runL st0 0 [] (writeL d) = (0, 0, t) ∧ t.d = d := by
  obtain ⟨m, hm, h1⟩ := go_lines h
  have h2 := runL_go (r := []) (p := 0) (right_clean h) (by rw [h1])
  rw [List.append_nil, h1] at h2
  refine ⟨_, h2.trans (if_pos ⟨rfl, hm⟩), rfl⟩
/-! Lengths. -/
theorem flat_le {c : Nat} : ∀ {ls : List (List ByteArray)}, (∀ ws ∈ ls, (lineW ws).length + 1 ≤ c) → (flatL ls).length ≤ ls.length * c
  | [], _ => Nat.zero_le _
  | ws :: ls, h => by
    have h1 := h ws List.mem_cons_self
    have h2 := flat_le (fun x hx => h x (List.mem_cons_of_mem _ hx))
    rw [flatL_cons, List.length_append, List.length_cons, List.length_cons, Nat.succ_mul]
    omega
theorem lw_2 (a b : ByteArray) : (lineW [a, b]).length = a.data.toList.length + 1 + b.data.toList.length := by
  rw [lineW_cons, lineW_one, List.length_append, List.length_cons]; omega
theorem lw_3 (a b c : ByteArray) : (lineW [a, b, c]).length = a.data.toList.length + 1 + b.data.toList.length + 1 + c.data.toList.length := by
  rw [lineW_cons, lineW_cons, lineW_one, List.length_append, List.length_cons, List.length_append, List.length_cons]; omega
theorem lw_4 (a b c e : ByteArray) : (lineW [a, b, c, e]).length = a.data.toList.length + 1 + b.data.toList.length + 1 + c.data.toList.length + 1 + e.data.toList.length := by
  rw [lineW_cons, lineW_cons, lineW_cons, lineW_one]
  simp only [List.length_append, List.length_cons]; omega
theorem lnsZ_len (d : Dr) : (lnsZ d).length ≤ 5 + d.tiers.length + d.places.length + d.quotas.length + d.barred.length := by
  unfold lnsZ headL restL
  have h1 : (kindL d).length ≤ 1 := by
    unfold kindL
    split
    · exact Nat.le_refl _
    · split
      · exact Nat.le_refl _
      · split
        · exact Nat.le_refl _
        · exact Nat.zero_le _
  have h2 : (rollL d.roll).length ≤ 1 := by unfold rollL; split <;> simp
  simp only [List.length_append, List.length_cons, List.length_map, List.length_nil]
  omega
/-- The numbers and names of a draw are short: names of n bytes, numbers of m digits. -/
structure Short (n m : Nat) (d : Dr) : Prop where
  name : d.name.data.toList.length ≤ n
  round : (decW d.round).data.toList.length ≤ m
  price : (decW d.price).data.toList.length ≤ m
  pool : (decW d.pool).data.toList.length ≤ m
  pick : (decW d.pick).data.toList.length ≤ m
  cls : (decW d.cls).data.toList.length ≤ m
  size : (decW d.size).data.toList.length ≤ m
  tiers : ∀ x ∈ d.tiers, (decW x.1).data.toList.length ≤ m ∧ (decW x.2).data.toList.length ≤ m
  places : ∀ x ∈ d.places, x.1.data.toList.length ≤ n ∧ (decW x.2).data.toList.length ≤ m
  quotas : ∀ x ∈ d.quotas, x.1.data.toList.length ≤ n ∧ (decW x.2.1).data.toList.length ≤ m ∧ (decW x.2.2).data.toList.length ≤ m
  barred : ∀ x ∈ d.barred, (decW x).data.toList.length ≤ m
theorem key_len : ∀ k, k < 11 → (keyW k).data.toList.length ≤ 7 := by decide
theorem lines_short {n m : Nat} {d : Dr} (h : Short n m d) : ∀ ws ∈ lnsZ d, (lineW ws).length + 1 ≤ 11 + n + 2 * m := by
  have k0 : kDraw.data.toList.length ≤ 7 := key_len 0 (by decide)
  have k1 : kLottery.data.toList.length ≤ 7 := key_len 1 (by decide)
  have k2 : kBallot.data.toList.length ≤ 7 := key_len 2 (by decide)
  have k3 : kPanel.data.toList.length ≤ 7 := key_len 3 (by decide)
  have k4 : kRound.data.toList.length ≤ 7 := key_len 4 (by decide)
  have k5 : kPrice.data.toList.length ≤ 7 := key_len 5 (by decide)
  have k6 : kTier.data.toList.length ≤ 7 := key_len 6 (by decide)
  have k7 : kRoll.data.toList.length ≤ 7 := key_len 7 (by decide)
  have k8 : kPlace.data.toList.length ≤ 7 := key_len 8 (by decide)
  have k9 : kQuota.data.toList.length ≤ 7 := key_len 9 (by decide)
  have k10 : kBar.data.toList.length ≤ 7 := key_len 10 (by decide)
  have h1 := h.name; have h2 := h.round; have h3 := h.price; have h4 := h.pool; have h5 := h.pick; have h6 := h.cls; have h7 := h.size
  intro ws hw
  unfold lnsZ headL restL kindL rollL at hw
  simp only [List.mem_append, List.mem_cons, List.mem_map, List.not_mem_nil, or_false] at hw
  rcases hw with (rfl | hw | rfl | rfl) | ⟨x, hx, rfl⟩ | hw | ⟨x, hx, rfl⟩ | ⟨x, hx, rfl⟩ | ⟨x, hx, rfl⟩
  · rw [lw_2]; omega
  · split at hw
    · rw [List.mem_singleton.1 hw, lw_3]; omega
    · split at hw
      · rw [List.mem_singleton.1 hw, lw_2]; omega
      · split at hw
        · rw [List.mem_singleton.1 hw, lw_2]; omega
        · cases hw
  · rw [lw_2]; omega
  · rw [lw_2]; omega
  · have := h.tiers x hx
    unfold tierL
    rw [lw_3]; omega
  · split at hw
    · rw [List.mem_singleton.1 hw, lineW_one]; omega
    · cases hw
  · have := h.places x hx
    unfold placeL
    rw [lw_3]; omega
  · have := h.quotas x hx
    unfold quotaL
    rw [lw_4]; omega
  · have := h.barred x hx
    unfold barL
    rw [lw_2]; omega
theorem write_len {n m c : Nat} {d : Dr} (h : Short n m d) (hc : 5 + d.tiers.length + d.places.length + d.quotas.length + d.barred.length ≤ c) : (writeL d).length ≤ c * (11 + n + 2 * m) := by
  have h1 := flat_le (lines_short h)
  have h2 := Nat.le_trans (lnsZ_len d) hc
  exact Nat.le_trans h1 (Nat.mul_le_mul_right _ h2)
theorem rg_len {z : Int} (h : rgB z = true) : (decW z).data.toList.length ≤ 10 := dec_len (rg_le h).2
theorem right_short {d : Dr} (h : Right d) : Short 20 10 d :=
  ⟨name_len h.name, rg_len h.round, rg_len h.price, rg_len h.pool, rg_len h.pick, rg_len h.cls, rg_len h.size,
    fun x hx => by obtain ⟨j, hj, rfl⟩ := List.getElem_of_mem hx; have := tierOk_at hj (h.tiers j hj); exact ⟨rg_len this.1, rg_len this.2.1⟩,
    fun x hx => by obtain ⟨j, hj, rfl⟩ := List.getElem_of_mem hx; have := placeOk_at hj (h.places j hj); exact ⟨name_len this.1, rg_len this.2.1⟩,
    fun x hx => by obtain ⟨j, hj, rfl⟩ := List.getElem_of_mem hx; have := quotaOk_at hj (h.quotas j hj); exact ⟨name_len this.1, rg_len this.2.1, rg_len this.2.2.1⟩,
    fun x hx => rg_len (h.barR x hx)⟩
theorem right_many {d : Dr} (h : Right d) : d.tiers.length + d.places.length + d.quotas.length ≤ 12 := by
  have h1 := h.t12; have h2 := h.p12; have h3 := h.q12
  rcases owns_k h.owns with hk | hk | hk
  · obtain ⟨_, o2, _, o4⟩ := (owns_1 hk).1 h.owns
    rw [o2, o4]; simpa using h1
  · obtain ⟨_, _, o3, _, _, o6⟩ := (owns_2 hk).1 h.owns
    rw [o3, o6]; simpa using h2
  · obtain ⟨_, _, o3, _, _, o6⟩ := (owns_3 hk).1 h.owns
    rw [o3, o6]; simpa using h3
theorem right_size {d : Dr} (h : Right d) : (writeB d).size ≤ 3000 := by
  have h1 := right_many h
  have h2 := h.b40
  have h3 := write_len (c := 57) (right_short h) (by omega)
  have e : (writeB d).size = (writeL d).length := by unfold writeB; simp [ByteArray.size]
  omega
/-- The text of a right draw is read as this draw. -/
theorem parse_write {d : Dr} (h : Right d) : parseZ (writeB d) = (0, 0, d) := by
  obtain ⟨t, h1, h2⟩ := runL_write h
  have h3 := right_size h
  unfold parseZ
  rw [if_pos (by omega), show (writeB d).data.toList = writeL d from rfl, h1, ← h2]
  rfl
/-- What Print gives. -/
def printZ (d : Dr) : ByteArray := if rightZ d = true then writeB d else ByteArray.empty
theorem print_yes {d : Dr} (h : (parseZ (writeB d)).1 = 0) (h2 : (parseZ (writeB d)).2.2 = d) : rightZ d = true := by
  rw [right_iff, ← h2]; exact (parse_right h).1
theorem print_no {d : Dr} (h : rightZ d = true) : (parseZ (writeB d)).1 = 0 ∧ (parseZ (writeB d)).2.2 = d := by
  rw [parse_write (right_iff.1 h)]; exact ⟨rfl, rfl⟩
theorem write_pos (d : Dr) : writeB d ≠ ByteArray.empty := by
  intro h
  have : (writeL d).length = 0 := by
    have e : (writeB d).size = (writeL d).length := by unfold writeB; simp [ByteArray.size]
    rw [← e, h]; rfl
  unfold writeL lnsZ headL at this
  rw [List.cons_append, flatL_cons, List.length_append, List.length_cons] at this
  omega
theorem print_some {d : Dr} : printZ d ≠ ByteArray.empty ↔ rightZ d = true := by
  unfold printZ
  constructor
  · intro h
    by_cases h2 : rightZ d = true
    · exact h2
    · rw [if_neg h2] at h; exact absurd rfl h
  · intro h
    rw [if_pos h]
    exact write_pos d
theorem print_size (d : Dr) : (printZ d).size ≤ 3000 := by
  unfold printZ
  split
  · next h => exact right_size (right_iff.1 h)
  · exact Nat.zero_le _
end Go.Proofs.YteikkpiginfbkaaGreatDoor

namespace Go.Proofs.YteikkpiginfbkaaGreatDoor
open Go.RowKit

theorem nat0 : natB 0 = ⟨#[]⟩ := by unfold natB; rw [beL_zero]
theorem decFold_lt : ∀ (n : Nat) (l : List UInt8), l.length = n → (∀ b ∈ l, 48 ≤ b.toNat ∧ b.toNat ≤ 57) → decFold 0 l < 10 ^ n
  | 0, l, hl, _ => by rw [List.length_eq_zero_iff.1 hl]; decide
  | n + 1, l, hl, h => by
    have hne : l ≠ [] := by intro e; rw [e] at hl; cases hl
    have e := List.dropLast_concat_getLast hne
    have ih := decFold_lt n l.dropLast (by rw [List.length_dropLast]; omega) (fun b hb => h b (List.dropLast_subset l hb))
    have hc := h _ (List.getLast_mem hne)
    rw [← e, decFold_snoc, Nat.pow_succ]
    omega
theorem decFold_size {l : List UInt8} (h : ∀ b ∈ l, 48 ≤ b.toNat ∧ b.toNat ≤ 57) : (natB (decFold 0 l)).size ≤ l.length := by
  rw [natB_size]
  exact beL_len (Nat.lt_of_lt_of_le (decFold_lt _ l rfl h) (Nat.pow_le_pow_left (by decide) _))
/-- The digits of the first k bytes. -/
def digK (s : ByteArray) (k : Nat) : Prop := ∀ b ∈ s.data.toList.take k, 48 ≤ b.toNat ∧ b.toNat ≤ 57
theorem digK_succ {s : ByteArray} {k : Nat} (h : digK s k) (hk : k < s.size) (h0 : 48 ≤ byteZ s k) (h1 : byteZ s k ≤ 57) : digK s (k + 1) := by
  have e : s.data.toList.length = s.size := Array.length_toList
  intro b hb
  rw [take_snoc (by omega)] at hb
  rcases List.mem_append.1 hb with hb | hb
  · exact h b hb
  · rw [List.mem_singleton.1 hb]
    rw [byte_at (by omega)] at h0 h1
    omega
theorem digK_fold {s : ByteArray} {k : Nat} (hk : k < s.size) (h0 : 48 ≤ byteZ s k) : decFold 0 (s.data.toList.take (k + 1)) = decFold 0 (s.data.toList.take k) * 10 + (byteZ s k - 48).toNat := by
  have e : s.data.toList.length = s.size := Array.length_toList
  rw [byte_at (by omega)] at h0
  rw [take_snoc (by omega), decFold_snoc, byte_at (by omega)]
  omega
theorem num_noD {s : ByteArray} {k : Nat} (hk : k < s.size) (h : byteZ s k < 48 ∨ 57 < byteZ s k) : numB s = false := by
  unfold numB
  rw [all_range_no hk (by unfold dgOk; rw [Bool.and_eq_false_iff, decide_eq_false_iff_not, decide_eq_false_iff_not]; omega)]
  simp
theorem num_yesD {s : ByteArray} (h1 : 1 ≤ s.size) (h0 : s.size = 1 ∨ byteZ s 0 ≠ 48) (h : digK s s.size) : numB s = true := by
  have e : s.data.toList.length = s.size := Array.length_toList
  rw [num_ofZ h1 h0, List.all_eq_true]
  intro j hj
  have hj := List.mem_range.1 hj
  have := h _ (by rw [← e, List.take_length]; exact List.getElem_mem (by omega : j < s.data.toList.length))
  unfold dgOk
  rw [byte_at (by omega), Bool.and_eq_true, decide_eq_true_eq, decide_eq_true_eq]
  omega
def prsV (s : ByteArray) : Value := if numB s = true then .tuple #[.string (natB (decFold 0 s.data.toList)), .bool true] else .tuple #[.string ⟨#[]⟩, .bool false]
theorem prs_no {s : ByteArray} (h : numB s = false) : prsV s = .tuple #[.string ⟨#[]⟩, .bool false] := if_neg (by rw [h]; decide)
theorem prs_yes {s : ByteArray} (h : numB s = true) : prsV s = .tuple #[.string (natB (decFold 0 s.data.toList)), .bool true] := if_pos h
set_option maxRecDepth 100000 in
set_option maxHeartbeats 4000000 in
theorem rparse1_any (s : ByteArray) (w : World) (hs : s.size ≤ 5000) :
    Calls Tryz.prog 126 #[.string s] w fun e w' => e = .returned (prsV s) ∧ Only (fun _ => False) w w' := by
  by_cases h0 : s.size = 0
  · rw [prs_no (num_noE h0)]
    have q0 : ((s.size : Int) == 0) = true := by rw [h0]; rfl
    clear h0
    go_enter Tryz.func126, Tryz.ntmps126
    go_wp2_with fail
    go_ret2
    exact ⟨rfl, Only.refl _ _⟩
  have q0 : ((s.size : Int) == 0) = false := beq_eq_false_iff_ne.2 (by omega)
  have hp : 0 < s.size := by omega
  have b0 := byteZ_eq s 0 hp
  by_cases h1 : 2 ≤ s.size ∧ byteZ s 0 = 48
  · rw [prs_no (num_noZ h1.1 h1.2)]
    have q1 : (1 : Int) < s.size := by omega
    rw [h1.2] at b0
    clear h0 h1
    go_enter Tryz.func126, Tryz.ntmps126
    go_wp2_with fail
    go_ret2
    exact ⟨rfl, Only.refl _ _⟩
  have HH := Lib.hid (show s.size = 1 ∨ byteZ s 0 ≠ 48 by
    by_cases h2 : 2 ≤ s.size
    · exact .inr fun e => h1 ⟨h2, e⟩
    · left; omega)
  have HQ := Lib.hid (fun w => rof_any 10 w (by decide))
  have HNE := Lib.hid h1
  clear h0 h1
  go_enter Tryz.func126, Tryz.ntmps126
  go_upto_region 1 with (fail)
  go_cut [18] (fun v wx => v = .bool false ∧ wx = w)
  case first =>
    by_cases h2 : 1 < s.size
    · have q1 : (1 : Int) < s.size := by omega
      have q2 : (byteZ s 0 == 48) = false := beq_eq_false_iff_ne.2 (fun e => HNE.out ⟨h2, e⟩)
      clear h2
      go_wp2_with fail
      go_meet
      exact ⟨rfl, rfl⟩
    · have q1 : ¬ (1 : Int) < s.size := by omega
      clear h2
      go_wp2_with fail
      go_meet
      exact ⟨rfl, rfl⟩
  case rest =>
    obtain ⟨rfl, rfl⟩ := hcut
    have HP := Lib.hid hp
    clear q0 hp b0
    go_wp2_with fail
    go_loopw [4, 5] (fun va vi wr => ∃ k : Nat, vi = .int .i64 k ∧ k ≤ s.size ∧ va = .string (natB (decFold 0 (s.data.toList.take k))) ∧ digK s k ∧ Only (fun _ => False) wc wr) (fun _ vi _ => s.size - (intOf vi).toNat)
    case atStart => exact ⟨0, rfl, Nat.zero_le _, by rw [List.take_zero]; exact congrArg Value.string nat0.symm, (fun b hb => by simp at hb), Only.refl _ _⟩
    case round =>
      obtain ⟨k, rfl, hk, rfl, hd, hO⟩ := hrel
      have HD := Lib.hid hd
      have HO := Lib.hid hO
      clear hd hO
      by_cases hlt : k < s.size
      · have j1 : (k : Int) < s.size := by omega
        have j0 : 0 ≤ (k : Int) := by omega
        have b0 := byteZ_eq s k hlt
        obtain ⟨r0, r1⟩ := byteZ_bdR s k
        by_cases c1 : byteZ s k < 48
        · have HPV := Lib.hid (prs_no (num_noD hlt (.inl c1)))
          generalize byteZ s k = y at *
          go_wp2_with fail
          go_ret2
          rw [HPV.out]
          exact ⟨rfl, HO.out⟩
        · by_cases c2 : 57 < byteZ s k
          · have HPV := Lib.hid (prs_no (num_noD hlt (.inr c2)))
            generalize byteZ s k = y at *
            go_wp2_with fail
            go_ret2
            rw [HPV.out]
            exact ⟨rfl, HO.out⟩
          · have HD2 := Lib.hid (digK_succ HD.out hlt (by omega) (by omega))
            have HF := Lib.hid (digK_fold hlt (by omega))
            have hsz : (natB (decFold 0 (s.data.toList.take k))).size ≤ 9000 := by
              have := decFold_size HD.out
              rw [List.length_take] at this
              omega
            have HS2 := Lib.hid (show (natB (decFold 0 (s.data.toList.take k) * 10)).size ≤ 9000 by
              have := decFold_size HD2.out
              rw [List.length_take] at this
              rw [natB_size]
              refine Nat.le_trans (beL_len (k := (natB (decFold 0 (s.data.toList.take k))).size + 1) ?_) (by
                have h3 := decFold_size HD.out
                rw [List.length_take] at h3
                omega)
              have := natB_small (decFold 0 (s.data.toList.take k)) _ (Nat.le_refl _)
              rw [Nat.pow_succ]
              omega)
            have HM := Lib.hid (fun w => rmul10_any (decFold 0 (s.data.toList.take k)) w hsz)
            have hd10 : (byteZ s k - 48).toNat < 256 := by omega
            have HAD := Lib.hid (fun w => bigadd_any (decFold 0 (s.data.toList.take k) * 10) (byteZ s k - 48).toNat w HS2.out hd10)
            have HOD := Lib.hid (fun w => rofI_any (byteZ s k - 48) w (by omega) (by omega))
            rw [← HF.out] at HAD
            have HHI := Lib.hid hlt
            clear HS2 hsz HF
            generalize decFold 0 (s.data.toList.take k) = n at *
            generalize byteZ s k = y at *
            clear hd10
            go_wp2_with fail
            refine wp_region_quiet_below (by kernel_rfl) (by kernel_rfl) ?_
            repeat (go_big_quiet_step ((first
              | (go_at_call 24; with_reducible exact Calls.regrown_of ((HQ.out _).mono fun _ _ h => ⟨h.1, h.2.below (Nat.le_refl _) (fun _ _ h => h)⟩))
              | (go_at_call 24; with_reducible exact Calls.regrown_of (HOD.out _))
              | (go_at_call 135; with_reducible exact Calls.regrown_of ((HM.out _).mono fun _ _ h => ⟨h.1, h.2.below (Nat.le_refl _) (fun _ _ h => h)⟩))
              | (go_at_call 134; with_reducible exact Calls.regrown_of ((HAD.out _).mono fun _ _ h => ⟨h.1, h.2.below (Nat.le_refl _) (fun _ _ h => h)⟩)))))
            refine wpQuiet_nil ?_
            intro w2 hw'
            obtain ⟨pq, hw''⟩ := hw'
            have HO2 := Lib.hid (HO.out.trans (Only.ofBelow (below_regrown wr pq.d pq.os) (fun _ => False)))
            rw [← hw''] at HO2
            clear hw''
            go_wp2_with fail
            go_roundw
            case rel => exact ⟨k + 1, by go_num, HHI.out, rfl, HD2.out, HO2.out⟩
            case measure => simp [intOf]; have := HHI.out; omega
      · obtain rfl : k = s.size := by omega
        have j1 : ¬ (s.size : Int) < s.size := by omega
        have HY := Lib.hid (num_yesD (by have := HP.out; omega) HH.out HD.out)
        have e : s.data.toList.length = s.size := Array.length_toList
        have HPV := Lib.hid (prs_yes HY.out)
        have HTL := Lib.hid (show s.data.toList.take s.size = s.data.toList by rw [← e, List.take_length])
        clear e
        rw [HTL.out]
        go_wp2_with fail
        go_ret2
        rw [HPV.out]
        exact ⟨rfl, HO.out⟩
end Go.Proofs.YteikkpiginfbkaaGreatDoor

namespace Go.Proofs.YteikkpiginfbkaaGreatDoor
open Go.RowKit

theorem Tryz.namedPow : Tryz.prog.globalNamed "internal/strconv.uint64pow10" = some 1 := by kernel_rfl
theorem tabIsU_only {P : Program} {A B : World} {name : String} {k : IntKind} {zs : List Int} {g : Nat} (h : Lib.TabIs P A name k zs) (hg : P.globalNamed name = some g) (hO : Only (fun _ => False) A B) : Lib.TabIs P B name k zs := by
  have hb : ∃ t fr, A.heap[g]? = some (.cells (zs.map fun z => Value.int k z).toArray t fr) := by
    unfold Lib.TabIs World.var? at h
    rw [hg, Option.bind_some] at h
    split at h
    · rename_i c t fr hb
      cases h
      exact ⟨t, fr, hb⟩
    · cases h
  obtain ⟨t, fr, hb⟩ := hb
  unfold Lib.TabIs World.var?
  rw [hg, Option.bind_some, hO.block g (Array.getElem?_eq_some_iff.1 hb).1 (fun h => h), hb]
/-- The listed variables that the program's texts read. -/
structure GlobU (w : World) : Prop where
  pow : Lib.TabIs Tryz.prog w "internal/strconv.uint64pow10" .u64 Lib.pow10Tab
  len : LenR w
theorem GlobU.only {a b : World} (h : GlobU a) (hO : Only (fun _ => False) a b) : GlobU b := ⟨tabIsU_only h.pow Tryz.namedPow hO, h.len.only hO (fun h => h)⟩
theorem only_growU (w : World) (k : Nat) (os : Array Obj) : Only (fun _ => False) w (Go.Sort.grow (w.drewN k) os) :=
  ⟨rfl, rfl, rfl, by simp [Go.Sort.grow], fun b hb _ => by simp only [Go.Sort.grow]; rw [Array.getElem?_append_left (by exact hb)]; rfl⟩
theorem itoaU_any (n : Int) (w : World) (h : R64 n) (hG : GlobU w) :
    Calls Tryz.prog 64 #[.int .i64 n] w fun e w' => e = .returned (.string ⟨(Lib.itoa n).toArray⟩) ∧ Only (fun _ => False) w w' :=
  (Tryz.strconv_Itoa n h.1 h.2 w hG.pow).mono fun e w' h => by
    obtain ⟨he, k, os, hw⟩ := h
    exact ⟨he, hw ▸ only_growU w k os⟩
def numU (n : Int) : ByteArray := ⟨#[32]⟩ ++ ⟨(Lib.itoa n).toArray⟩
/-- A word and numbers, with blanks between them. -/
def textU (word : ByteArray) (ns : List Int) : ByteArray := ns.foldl (fun s n => s ++ numU n) word
theorem numU_size {n : Int} (h : R64 n) : (numU n).size ≤ 22 := by
  have : (⟨(Lib.itoa n).toArray⟩ : ByteArray).size ≤ 21 := Lib.itoa_length_le n h.1 h.2
  unfold numU
  rw [ByteArray.size_append]
  have : (⟨#[32]⟩ : ByteArray).size = 1 := rfl
  omega
theorem textU_snoc (word : ByteArray) (l : List Int) (n : Int) : textU word (l ++ [n]) = textU word l ++ numU n := by unfold textU; rw [List.foldl_append]; rfl
theorem textU_take {word : ByteArray} {ns : List Int} {k : Nat} (hk : k < ns.length) : textU word (ns.take (k + 1)) = textU word (ns.take k) ++ numU (ptAt ns k) := by
  rw [take_snoc hk, textU_snoc]
  congr 2
  unfold ptAt; simp [List.getD, hk]
theorem textU_size {word : ByteArray} : ∀ {ns : List Int}, (∀ n ∈ ns, R64 n) → (textU word ns).size ≤ word.size + 22 * ns.length
  | [], _ => Nat.le_refl _
  | n :: ns, h => by
    have h1 := numU_size (h n List.mem_cons_self)
    have h2 := textU_size (word := word ++ numU n) (fun m hm => h m (List.mem_cons_of_mem _ hm))
    rw [ByteArray.size_append] at h2
    show (textU (word ++ numU n) ns).size ≤ _
    rw [List.length_cons]
    omega
set_option maxRecDepth 100000 in
set_option maxHeartbeats 2000000 in
theorem text_any (word : ByteArray) (a : Option Addr) (c : Nat) (ns : List Int) (w : World) (hI : PtsAt w.heap.size w (.slice a ns.length c) ns) (hl : ns.length ≤ 1000) (hw : word.size ≤ 1000000) (hR : ∀ n ∈ ns, R64 n) (hG : GlobU w) :
    Calls Tryz.prog 29 #[.string word, .slice a ns.length c] w fun e w' => e = .returned (.string (textU word ns)) ∧ Only (fun _ => False) w w' := by
  have HI := Lib.hid hI
  have HG := Lib.hid hG
  have HR := Lib.hid hR
  clear hI hG hR
  go_enter Tryz.func29, Tryz.ntmps29
  go_wp2_with fail
  go_loopw [0, 9] (fun s i wr => ∃ k : Nat, i = .int .i64 k ∧ k ≤ ns.length ∧ s = .string (textU word (ns.take k)) ∧ Only (fun _ => False) w wr) (fun _ i _ => ns.length - (intOf i).toNat)
  case atStart => exact ⟨0, rfl, Nat.zero_le _, rfl, Only.refl _ _⟩
  case round =>
    obtain ⟨k, rfl, hk, rfl, hO⟩ := hrel
    have HO := Lib.hid hO
    have HI2 := Lib.hid (show PtsAt wr.heap.size wr (.slice a ns.length c) ns from PtsAt.only hO HI.out)
    clear hO
    by_cases hlt : k < ns.length
    · have j1 : (k : Int) < ns.length := by omega
      have j2 : 0 ≤ (k : Int) := by omega
      obtain ⟨b, off, rfl, hbl, hl0, hcp1, hcp2, hcell⟩ := HI2.out.cellAt hlt
      have HS := Lib.hid (textU_size (word := word) (ns := ns.take k) (fun n hn => HR.out n (List.mem_of_mem_take hn)))
      have HN := Lib.hid (textU_take (word := word) hlt)
      have hz : R64 (ptAt ns k) := HR.out _ (by unfold ptAt; simp [List.getD, hlt])
      have HZ := Lib.hid (numU_size hz)
      have HIT := Lib.hid (itoaU_any (ptAt ns k) wr hz (HG.out.only HO.out))
      have HU := Lib.hid (show numU (ptAt ns k) = ⟨#[32]⟩ ++ ⟨(Lib.itoa (ptAt ns k)).toArray⟩ from rfl)
      have hsz := HS.out
      have hsz2 := HZ.out
      rw [HU.out, ByteArray.size_append, show (⟨#[32]⟩ : ByteArray).size = 1 from rfl] at hsz2
      rw [List.length_take, Nat.min_eq_left hk] at hsz
      rw [HU.out] at HN
      generalize (⟨(Lib.itoa (ptAt ns k)).toArray⟩ : ByteArray) = u at *
      generalize ptAt ns k = z at *
      generalize textU word (ns.take k) = s at *
      clear hz hl0
      go_wp2_with fail
      refine HIT.out.mono ?_
      rintro e w2 ⟨rfl, hO2⟩
      have HO2 := Lib.hid (HO.out.trans hO2)
      clear hO2
      have i1 : ¬ (9223372036854775807 < s.size + (1 + u.size)) := by omega
      have i2 : ¬ (9223372036854775807 < 1 + u.size) := by omega
      go_wp2_with fail
      go_roundw
      case rel => exact ⟨k + 1, by go_num, hlt, by rw [HN.out], HO2.out⟩
      case measure => simp [intOf]; omega
    · obtain rfl : k = ns.length := by omega
      have j1 : ¬ (ns.length : Int) < ns.length := by omega
      have HE := Lib.hid (show textU word (ns.take ns.length) = textU word ns by rw [List.take_length])
      go_wp2_with fail
      go_ret
      rw [← HE.out]
      exact ⟨rfl, HO.out⟩
theorem pts_six (w : World) (a b c d e f : Int) : PtsAt (w.alloc (.cells #[.int .i64 a, .int .i64 b, .int .i64 c, .int .i64 d, .int .i64 e, .int .i64 f] 3)).heap.size (w.alloc (.cells #[.int .i64 a, .int .i64 b, .int .i64 c, .int .i64 d, .int .i64 e, .int .i64 f] 3)) (.slice (some ⟨w.heap.size, 0, none⟩) [a, b, c, d, e, f].length 6) [a, b, c, d, e, f] :=
  pts_new w [a, b, c, d, e, f] (by simp) (by simp)
theorem right_parts (d : Dr) : rightZ d = (ownsZ d && nameB d.name && [d.round, d.price, d.pool, d.pick, d.cls, d.size].all rgB && listsZ d) := rfl
set_option maxRecDepth 100000 in
set_option maxHeartbeats 4000000 in
theorem right_any (d : Dr) (vt vp vq vb : Value) (bb : Bool) (base : Nat) (w : World) (hd : DrOwn base w d vt vp vq vb) (hb : rightZ d = bb) (hbig : d.tiers.length ≤ 1000000 ∧ d.places.length ≤ 1000000 ∧ d.quotas.length ≤ 1000000 ∧ d.barred.length ≤ 1000000) :
    Calls Tryz.prog 28 #[.agg (drCells d vt vp vq vb)] w fun e w' => e = .returned (.bool bb) ∧ Only (fun _ => False) w w' := by
  obtain ⟨b1, h1⟩ : ∃ b, ownsZ d = b := ⟨_, rfl⟩
  obtain ⟨b2, h2⟩ : ∃ b, nameB d.name = b := ⟨_, rfl⟩
  obtain ⟨b3, h3⟩ : ∃ b, [d.round, d.price, d.pool, d.pick, d.cls, d.size].all rgB = b := ⟨_, rfl⟩
  obtain ⟨b4, h4⟩ : ∃ b, listsZ d = b := ⟨_, rfl⟩
  rw [right_parts, h1, h2, h3, h4] at hb
  have HB := Lib.hid hb
  have HD := Lib.hid hd
  have HC1 := Lib.hid (fun (w : World) (hd : DrOwn base w d vt vp vq vb) => owns_any d vt vp vq vb b1 base w hd h1)
  have HC2 := Lib.hid (fun (w : World) => isname_any d.name b2 w h2)
  have HC4 := Lib.hid (fun (w : World) (hd : DrOwn base w d vt vp vq vb) => lists_any d vt vp vq vb b4 base w hd h4 hbig)
  have HB3 := Lib.hid h3
  have HZ := Lib.hid (heap_alloc_last w (.cells (drCells d vt vp vq vb) 33))
  have HO := Lib.hid ((Only.refl (fun _ => False) w).alloc (.cells (drCells d vt vp vq vb) 33))
  clear hb hd h1 h2 h3 h4 hbig
  go_enter Tryz.func28, Tryz.ntmps28
  go_upto_region 1 with (fail)
  generalize World.alloc w _ = w1 at *
  have HD1 := Lib.hid (HD.out.only HO.out (fun _ _ h => h))
  have c0 : w1.cell? ⟨w.heap.size, 0, none⟩ = some (Value.string d.name) := cell_of_row _ _ 0 _ _ _ HZ.out
  have c1 : w1.cell? ⟨w.heap.size, 1, none⟩ = some (Value.int .i64 d.kind) := cell_of_row _ _ 1 _ _ _ HZ.out
  have c2 : w1.cell? ⟨w.heap.size, 2, none⟩ = some (Value.int .i64 d.round) := cell_of_row _ _ 2 _ _ _ HZ.out
  have c3 : w1.cell? ⟨w.heap.size, 3, none⟩ = some (Value.int .i64 d.price) := cell_of_row _ _ 3 _ _ _ HZ.out
  have c4 : w1.cell? ⟨w.heap.size, 4, none⟩ = some (Value.int .i64 d.pool) := cell_of_row _ _ 4 _ _ _ HZ.out
  have c5 : w1.cell? ⟨w.heap.size, 5, none⟩ = some (Value.int .i64 d.pick) := cell_of_row _ _ 5 _ _ _ HZ.out
  have c6 : w1.cell? ⟨w.heap.size, 6, none⟩ = some (vt) := cell_of_row _ _ 6 _ _ _ HZ.out
  have c7 : w1.cell? ⟨w.heap.size, 7, none⟩ = some (Value.bool d.roll) := cell_of_row _ _ 7 _ _ _ HZ.out
  have c8 : w1.cell? ⟨w.heap.size, 8, none⟩ = some (vp) := cell_of_row _ _ 8 _ _ _ HZ.out
  have c9 : w1.cell? ⟨w.heap.size, 9, none⟩ = some (Value.int .i64 d.cls) := cell_of_row _ _ 9 _ _ _ HZ.out
  have c10 : w1.cell? ⟨w.heap.size, 10, none⟩ = some (Value.int .i64 d.size) := cell_of_row _ _ 10 _ _ _ HZ.out
  have c11 : w1.cell? ⟨w.heap.size, 11, none⟩ = some (vq) := cell_of_row _ _ 11 _ _ _ HZ.out
  have c12 : w1.cell? ⟨w.heap.size, 12, none⟩ = some (vb) := cell_of_row _ _ 12 _ _ _ HZ.out
  cases b1
  · obtain rfl : false = bb := HB.out
    go_wp2_with fail
    refine (HC1.out _ HD1.out).mono ?_
    rintro e w2 ⟨rfl, hO2⟩
    go_wp2_with fail
    go_ret
    exact ⟨rfl, HO.out.trans hO2⟩
  go_wp2_with fail
  refine (HC1.out _ HD1.out).mono ?_
  rintro e w2 ⟨rfl, hO2⟩
  have HO2 := Lib.hid (HO.out.trans hO2)
  have HZ2 := Lib.hid (row_still hO2 HZ.out)
  have HD2 := Lib.hid (HD1.out.only hO2 (fun _ _ h => h))
  clear hO2 c0 c1 c2 c3 c4 c5 c6 c7 c8 c9 c10 c11 c12
  have d0 : w2.cell? ⟨w.heap.size, 0, none⟩ = some (Value.string d.name) := cell_of_row _ _ 0 _ _ _ HZ2.out
  have d1 : w2.cell? ⟨w.heap.size, 1, none⟩ = some (Value.int .i64 d.kind) := cell_of_row _ _ 1 _ _ _ HZ2.out
  have d2 : w2.cell? ⟨w.heap.size, 2, none⟩ = some (Value.int .i64 d.round) := cell_of_row _ _ 2 _ _ _ HZ2.out
  have d3 : w2.cell? ⟨w.heap.size, 3, none⟩ = some (Value.int .i64 d.price) := cell_of_row _ _ 3 _ _ _ HZ2.out
  have d4 : w2.cell? ⟨w.heap.size, 4, none⟩ = some (Value.int .i64 d.pool) := cell_of_row _ _ 4 _ _ _ HZ2.out
  have d5 : w2.cell? ⟨w.heap.size, 5, none⟩ = some (Value.int .i64 d.pick) := cell_of_row _ _ 5 _ _ _ HZ2.out
  have d6 : w2.cell? ⟨w.heap.size, 6, none⟩ = some (vt) := cell_of_row _ _ 6 _ _ _ HZ2.out
  have d7 : w2.cell? ⟨w.heap.size, 7, none⟩ = some (Value.bool d.roll) := cell_of_row _ _ 7 _ _ _ HZ2.out
  have d8 : w2.cell? ⟨w.heap.size, 8, none⟩ = some (vp) := cell_of_row _ _ 8 _ _ _ HZ2.out
  have d9 : w2.cell? ⟨w.heap.size, 9, none⟩ = some (Value.int .i64 d.cls) := cell_of_row _ _ 9 _ _ _ HZ2.out
  have d10 : w2.cell? ⟨w.heap.size, 10, none⟩ = some (Value.int .i64 d.size) := cell_of_row _ _ 10 _ _ _ HZ2.out
  have d11 : w2.cell? ⟨w.heap.size, 11, none⟩ = some (vq) := cell_of_row _ _ 11 _ _ _ HZ2.out
  have d12 : w2.cell? ⟨w.heap.size, 12, none⟩ = some (vb) := cell_of_row _ _ 12 _ _ _ HZ2.out
  cases b2
  · obtain rfl : false = bb := HB.out
    go_wp2_with fail
    refine (HC2.out _).mono ?_
    rintro e w3 ⟨rfl, rfl⟩
    go_wp2_with fail
    go_ret
    exact ⟨rfl, HO2.out⟩
  go_wp2_with fail
  refine (HC2.out _).mono ?_
  rintro e w3 ⟨rfl, rfl⟩
  go_wp2_with fail
  have HP := Lib.hid (pts_six w2 d.round d.price d.pool d.pick d.cls d.size)
  have HO3 := Lib.hid (HO2.out.alloc (.cells #[.int .i64 d.round, .int .i64 d.price, .int .i64 d.pool, .int .i64 d.pick, .int .i64 d.cls, .int .i64 d.size] 3))
  have HZ3 := Lib.hid (row_still ((Only.refl (fun _ => False) w2).alloc (.cells #[.int .i64 d.round, .int .i64 d.price, .int .i64 d.pool, .int .i64 d.pick, .int .i64 d.cls, .int .i64 d.size] 3)) HZ2.out)
  have HD3 := Lib.hid (HD2.out.only ((Only.refl (fun _ => False) w2).alloc (.cells #[.int .i64 d.round, .int .i64 d.price, .int .i64 d.pool, .int .i64 d.pick, .int .i64 d.cls, .int .i64 d.size] 3)) (fun _ _ h => h))
  cases b3
  · obtain rfl : false = bb := HB.out
    refine (range_any _ _ _ false _ HP.out HB3.out (by simp)).mono ?_
    rintro e w3 ⟨rfl, rfl⟩
    go_wp2_with fail
    go_ret
    exact ⟨rfl, HO3.out⟩
  refine (range_any _ _ _ true _ HP.out HB3.out (by simp)).mono ?_
  rintro e w3 ⟨rfl, rfl⟩
  generalize World.alloc w2 _ = w3 at *
  clear d0 d1 d2 d3 d4 d5 d6 d7 d8 d9 d10 d11 d12
  have f0 : w3.cell? ⟨w.heap.size, 0, none⟩ = some (Value.string d.name) := cell_of_row _ _ 0 _ _ _ HZ3.out
  have f1 : w3.cell? ⟨w.heap.size, 1, none⟩ = some (Value.int .i64 d.kind) := cell_of_row _ _ 1 _ _ _ HZ3.out
  have f2 : w3.cell? ⟨w.heap.size, 2, none⟩ = some (Value.int .i64 d.round) := cell_of_row _ _ 2 _ _ _ HZ3.out
  have f3 : w3.cell? ⟨w.heap.size, 3, none⟩ = some (Value.int .i64 d.price) := cell_of_row _ _ 3 _ _ _ HZ3.out
  have f4 : w3.cell? ⟨w.heap.size, 4, none⟩ = some (Value.int .i64 d.pool) := cell_of_row _ _ 4 _ _ _ HZ3.out
  have f5 : w3.cell? ⟨w.heap.size, 5, none⟩ = some (Value.int .i64 d.pick) := cell_of_row _ _ 5 _ _ _ HZ3.out
  have f6 : w3.cell? ⟨w.heap.size, 6, none⟩ = some (vt) := cell_of_row _ _ 6 _ _ _ HZ3.out
  have f7 : w3.cell? ⟨w.heap.size, 7, none⟩ = some (Value.bool d.roll) := cell_of_row _ _ 7 _ _ _ HZ3.out
  have f8 : w3.cell? ⟨w.heap.size, 8, none⟩ = some (vp) := cell_of_row _ _ 8 _ _ _ HZ3.out
  have f9 : w3.cell? ⟨w.heap.size, 9, none⟩ = some (Value.int .i64 d.cls) := cell_of_row _ _ 9 _ _ _ HZ3.out
  have f10 : w3.cell? ⟨w.heap.size, 10, none⟩ = some (Value.int .i64 d.size) := cell_of_row _ _ 10 _ _ _ HZ3.out
  have f11 : w3.cell? ⟨w.heap.size, 11, none⟩ = some (vq) := cell_of_row _ _ 11 _ _ _ HZ3.out
  have f12 : w3.cell? ⟨w.heap.size, 12, none⟩ = some (vb) := cell_of_row _ _ 12 _ _ _ HZ3.out
  obtain rfl : b4 = bb := by have := HB.out; simpa using this
  go_wp2_with fail
  refine (HC4.out _ HD3.out).mono ?_
  rintro e w4 ⟨rfl, hO4⟩
  go_wp2_with fail
  go_ret
  exact ⟨rfl, HO3.out.trans hO4⟩
end Go.Proofs.YteikkpiginfbkaaGreatDoor
