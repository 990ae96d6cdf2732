/-
  Rules, plain: the reference's line and the program's are one.
  Rules, the reference: line.
  Rules, the reference: Parse.
  Rules, the reference: decimal.
-/
import Derived.Test.YteikkpiginfbkaaGreatDoorPh28
import Derived.Test.YteikkpiginfbkaaGreatDoorPh20
namespace Go.Proofs.YteikkpiginfbkaaGreatDoor
open Go.RowKit

def nameTo (n : ByteArray) : List ByteArray → ByteArray
  | [] => n
  | w :: ws => nameTo (if numB w = true then n else w) ws
def numsT : List ByteArray → List Int
  | [] => []
  | w :: ws => if numB w = true then amtV w :: numsT ws else numsT ws
def smallT (ws : List ByteArray) : Bool := smallB (ws.drop 1)
def nameT (ws : List ByteArray) : ByteArray := nameTo ⟨#[]⟩ (ws.drop 1)
/-- The check of a line by its key. -/
def chkZ (t : St) (ws : List ByteArray) : Nat → Int
  | 0 => headZ t 0 [true, true] ws
  | 1 => headZ t 1 [true, false, false] ws
  | 2 => headZ t 1 [true, false] ws
  | 3 => headZ t 1 [true, false] ws
  | 4 => headZ t 2 [true, false] ws
  | 5 => headZ t 3 [true, false] ws
  | 6 => specZ t 1 [true, false, false] ws
  | 7 => specZ t 1 [true] ws
  | 8 => specZ t 2 [true, true, false] ws
  | 9 => specZ t 3 [true, true, false, false] ws
  | 10 => barZ t ws
  | _ => 12
theorem addTo_e2 {e : Int} {tw : Bool} {n most : Nat} {t t' : St} (h : e ≠ 0) : (addTo e tw n most t t').1 = e := by unfold addTo; rw [if_neg h]
theorem headTo_e2 {e : Int} {t t' : St} (h : e ≠ 0) : (headTo e t t').1 = e := by unfold headTo; rw [if_neg h]
theorem chk_err {t : St} {ws : List ByteArray} {k : Nat} (hk : keyOf (wAt ws 0) = k) (h : chkZ t ws k ≠ 0) : (lineZ t ws).1 = chkZ t ws k := by
  have h1 : (lnOf t ws (keyOf (wAt ws 0))).1 = chkZ t ws k := by
    rw [hk]
    match k, h with
    | 0, h => exact headTo_e2 h
    | 1, h => exact headTo_e2 h
    | 2, h => exact headTo_e2 h
    | 3, h => exact headTo_e2 h
    | 4, h => exact headTo_e2 h
    | 5, h => exact headTo_e2 h
    | 6, h => exact addTo_e2 h
    | 7, h => exact headTo_e2 h
    | 8, h => exact addTo_e2 h
    | 9, h => exact addTo_e2 h
    | 10, h => exact addTo_e2 h
    | k + 11, h => rfl
  exact line_err h1 h
theorem head_fit {t : St} {line : Int} {f : List Bool} {ws : List ByteArray} (h : fitB f ws = true) : headZ t line f ws = if t.lines = line then (if smallB ws = true then 0 else 3) else 12 := by
  unfold headZ
  by_cases h2 : t.lines = line
  · rw [if_pos ⟨h2, h⟩, if_pos h2]
  · rw [if_neg (fun e => h2 e.1), if_neg h2]
theorem head_nofit {t : St} {line : Int} {f : List Bool} {ws : List ByteArray} (h : fitB f ws = false) : headZ t line f ws = 12 := by
  unfold headZ
  rw [if_neg (fun e => by rw [h] at e; cases e.2)]
theorem spec_nofit {t : St} {kind : Int} {f : List Bool} {ws : List ByteArray} (h : fitB f ws = false) : specZ t kind f ws = 12 := by
  unfold specZ
  rw [if_neg (fun e => by rw [h] at e; cases e.2.1)]
theorem bar_nofit {t : St} {ws : List ByteArray} (h : fitB [true, false] ws = false) : barZ t ws = 12 := by
  unfold barZ
  rw [if_neg (fun e => by rw [h] at e; cases e.2)]
theorem chk_nofit {t : St} {ws : List ByteArray} {k : Nat} (h : fitB (true :: formK k) ws = false) : chkZ t ws k = 12 := by
  match k, h with
  | 0, h => exact head_nofit h
  | 1, h => exact head_nofit h
  | 2, h => exact head_nofit h
  | 3, h => exact head_nofit h
  | 4, h => exact head_nofit h
  | 5, h => exact head_nofit h
  | 6, h => exact spec_nofit h
  | 7, h => exact spec_nofit h
  | 8, h => exact spec_nofit h
  | 9, h => exact spec_nofit h
  | 10, h => exact bar_nofit h
  | k + 11, h => rfl
theorem follows_no {ln kd : Int} {ro ba : Bool} {s : ByteArray} (h : ∀ j, j < 11 → s ≠ shapeK j) : followsP ln kd ro ba s = 12 := by
  unfold followsP
  have hk := kind_none (s := s) (fun j _ hj => h j hj)
  by_cases h0 : ln = 0
  · rw [if_pos h0, if_neg (show ¬ s = sDraw from h 0 (by decide))]
  rw [if_neg h0]
  by_cases h1 : ln = 1
  · rw [if_pos h1, if_neg (by rintro (e | e | e); exact h 1 (by decide) e; exact h 2 (by decide) e; exact h 3 (by decide) e)]
  rw [if_neg h1]
  by_cases h2 : ln = 2
  · rw [if_pos h2, if_neg (show ¬ s = sRound from h 4 (by decide))]
  rw [if_neg h2]
  by_cases h3 : ln = 3
  · rw [if_pos h3, if_neg (show ¬ s = sPrice from h 5 (by decide))]
  rw [if_neg h3, hk, if_pos (.inl (by decide))]
theorem shape_tab : ∀ k, k < 6 → (shapeK k = sDraw ↔ k = 0) ∧ ((shapeK k = sLottery ∨ shapeK k = sBallot ∨ shapeK k = sPanel) ↔ (k = 1 ∨ k = 2 ∨ k = 3)) ∧ (shapeK k = sRound ↔ k = 4) ∧ (shapeK k = sPrice ↔ k = 5) ∧ kindZ (shapeK k) = -1 := by decide
theorem follows_head {ln kd : Int} {ro ba : Bool} {k : Nat} {j : Int} (hk : k < 6) (hj : (k = 0 ∧ j = 0) ∨ ((k = 1 ∨ k = 2 ∨ k = 3) ∧ j = 1) ∨ (k = 4 ∧ j = 2) ∨ (k = 5 ∧ j = 3)) : followsP ln kd ro ba (shapeK k) = if ln = j then 0 else 12 := by
  obtain ⟨a0, a1, a2, a3, hz⟩ := shape_tab k hk
  unfold followsP
  rw [hz]
  by_cases h0 : ln = 0
  · rw [if_pos h0]
    by_cases e : k = 0
    · rw [if_pos (a0.2 e), if_pos (by omega)]
    · rw [if_neg (fun h => e (a0.1 h)), if_neg (by omega)]
  rw [if_neg h0]
  by_cases h1 : ln = 1
  · rw [if_pos h1]
    by_cases e : k = 1 ∨ k = 2 ∨ k = 3
    · rw [if_pos (a1.2 e), if_pos (by omega)]
    · rw [if_neg (fun h => e (a1.1 h)), if_neg (by omega)]
  rw [if_neg h1]
  by_cases h2 : ln = 2
  · rw [if_pos h2]
    by_cases e : k = 4
    · rw [if_pos (a2.2 e), if_pos (by omega)]
    · rw [if_neg (fun h => e (a2.1 h)), if_neg (by omega)]
  rw [if_neg h2]
  by_cases h3 : ln = 3
  · rw [if_pos h3]
    by_cases e : k = 5
    · rw [if_pos (a3.2 e), if_pos (by omega)]
    · rw [if_neg (fun h => e (a3.1 h)), if_neg (by omega)]
  rw [if_neg h3, if_pos (.inl (by decide)), if_neg (by omega)]
theorem follows_spec {ln kd : Int} {ro ba : Bool} {s : ByteArray} {kz : Int} (h0 : 0 ≤ ln) (hz : kindZ s = kz) (hs : s ≠ sDraw ∧ s ≠ sLottery ∧ s ≠ sBallot ∧ s ≠ sPanel ∧ s ≠ sRound ∧ s ≠ sPrice) (hk : 0 ≤ kz) :
    followsP ln kd ro ba s = if 4 ≤ ln then (if 0 < kz ∧ ba = true then 12 else if 0 < kz ∧ kz ≠ kd then 14 else if kz = 0 ∨ ro = false then 0 else 12) else 12 := by
  unfold followsP
  rw [hz]
  obtain ⟨s0, s1, s2, s3, s4, s5⟩ := hs
  by_cases h4 : 4 ≤ ln
  · rw [if_neg (by omega), if_neg (by omega), if_neg (by omega), if_neg (by omega), if_pos h4]
    by_cases hb : 0 < kz ∧ ba = true
    · rw [if_pos (.inr hb), if_pos hb]
    · rw [if_neg (by rintro (e | e); omega; exact hb e), if_neg hb]
  · rw [if_neg h4]
    by_cases e0 : ln = 0
    · rw [if_pos e0, if_neg s0]
    rw [if_neg e0]
    by_cases e1 : ln = 1
    · rw [if_pos e1, if_neg (by rintro (e | e | e); exact s1 e; exact s2 e; exact s3 e)]
    rw [if_neg e1]
    by_cases e2 : ln = 2
    · rw [if_pos e2, if_neg s4]
    rw [if_neg e2, if_pos (by omega), if_neg s5]
theorem spec_fit {t : St} {kind : Int} {f : List Bool} {ws : List ByteArray} (h : fitB f ws = true) (hk : 0 < kind) : specZ t kind f ws = if 4 ≤ t.lines then (if 0 < kind ∧ t.barred = true then 12 else if 0 < kind ∧ kind ≠ t.d.kind then 14 else if kind = 0 ∨ t.rolled = false then (if smallB ws = true then 0 else 3) else 12) else 12 := by
  unfold specZ
  by_cases h4 : 4 ≤ t.lines
  · rw [if_pos h4]
    cases hb : t.barred with
    | true => rw [if_neg (fun e => by cases e.2.2), if_pos ⟨hk, rfl⟩]
    | false =>
      rw [if_pos ⟨h4, h, rfl⟩, if_neg (show ¬ (0 < kind ∧ (false : Bool) = true) from fun e => by cases e.2)]
      by_cases hkk : t.d.kind = kind
      · rw [if_pos hkk, if_neg (show ¬ (0 < kind ∧ kind ≠ t.d.kind) from fun e => e.2 hkk.symm)]
        cases hr : t.rolled with
        | true => rw [if_neg (by decide), if_neg (show ¬ (kind = 0 ∨ (true : Bool) = false) from by rintro (e | e); omega; cases e)]
        | false => rw [if_pos rfl, if_pos (show kind = 0 ∨ (false : Bool) = false from .inr rfl)]
      · rw [if_neg hkk, if_pos (show 0 < kind ∧ kind ≠ t.d.kind from ⟨hk, fun e => hkk e.symm⟩)]
  · rw [if_neg (fun e => h4 e.1), if_neg h4]
theorem bar_fit {t : St} {ws : List ByteArray} (h : fitB [true, false] ws = true) : barZ t ws = if 4 ≤ t.lines then (if smallB ws = true then 0 else 3) else 12 := by
  unfold barZ
  by_cases h4 : 4 ≤ t.lines
  · rw [if_pos ⟨h4, h⟩, if_pos h4]
  · rw [if_neg (fun e => h4 e.1), if_neg h4]
/-- The check is what follows says, then the size of the numbers. -/
theorem chk_follows {t : St} {ws : List ByteArray} (h : noSp (wAt ws 0).data.toList) (h0 : ws ≠ []) (hl : 0 ≤ t.lines) :
    chkZ t ws (keyOf (wAt ws 0)) = if followsZ t (shapeB ws) = 0 then (if smallB ws = true then 0 else 3) else followsZ t (shapeB ws) := by
  have hgs := fun k hk => good_shape h h0 k hk
  obtain ⟨k, hk⟩ : ∃ k, keyOf (wAt ws 0) = k := ⟨_, rfl⟩
  rw [hk]
  by_cases hk11 : k < 11
  · cases hf : fitB (true :: formK k) ws with
    | false =>
      have hn : followsZ t (shapeB ws) = 12 := follows_no (fun j hj e => by
        obtain ⟨e1, e2⟩ := (hgs j hj).1 e
        rw [hk] at e1
        subst e1
        rw [hf] at e2
        cases e2)
      rw [hn, chk_nofit hf, if_neg (by decide)]
    | true =>
      have hs : shapeB ws = shapeK k := (hgs k hk11).2 ⟨hk, hf⟩
      rw [hs]
      unfold followsZ
      have hd : ∀ (ln j : Int) (b : Bool), (if ln = j then (if b = true then 0 else 3) else 12 : Int) = if (if ln = j then 0 else 12 : Int) = 0 then (if b = true then 0 else 3) else (if ln = j then 0 else 12) := by
        intro ln j b
        by_cases e : ln = j
        · rw [if_pos e, if_pos e, if_pos rfl]
        · rw [if_neg e, if_neg e, if_neg (by decide)]
      have hsp : ∀ (ln kz kd : Int) (ro ba b : Bool), (if 4 ≤ ln then (if 0 < kz ∧ ba = true then 12 else if 0 < kz ∧ kz ≠ kd then 14 else if kz = 0 ∨ ro = false then (if b = true then 0 else 3) else 12) else 12 : Int) =
          if (if 4 ≤ ln then (if 0 < kz ∧ ba = true then 12 else if 0 < kz ∧ kz ≠ kd then 14 else if kz = 0 ∨ ro = false then 0 else 12) else 12 : Int) = 0 then (if b = true then 0 else 3) else (if 4 ≤ ln then (if 0 < kz ∧ ba = true then 12 else if 0 < kz ∧ kz ≠ kd then 14 else if kz = 0 ∨ ro = false then 0 else 12) else 12 : Int) := by
        intro ln kz kd ro ba b
        by_cases e1 : 4 ≤ ln
        · by_cases e2 : 0 < kz ∧ ba = true
          · simp only [if_pos e1, if_pos e2]; rfl
          · by_cases e3 : 0 < kz ∧ kz ≠ kd
            · simp only [if_pos e1, if_neg e2, if_pos e3]; rfl
            · by_cases e4 : kz = 0 ∨ ro = false
              · simp only [if_pos e1, if_neg e2, if_neg e3, if_pos e4]; rfl
              · simp only [if_pos e1, if_neg e2, if_neg e3, if_neg e4]; rfl
        · simp only [if_neg e1]; rfl
      match k, hk11, hf with
      | 0, _, hf => rw [follows_head (j := 0) (by decide) (by decide), ← hd]; exact head_fit hf
      | 1, _, hf => rw [follows_head (j := 1) (by decide) (by decide), ← hd]; exact head_fit hf
      | 2, _, hf => rw [follows_head (j := 1) (by decide) (by decide), ← hd]; exact head_fit hf
      | 3, _, hf => rw [follows_head (j := 1) (by decide) (by decide), ← hd]; exact head_fit hf
      | 4, _, hf => rw [follows_head (j := 2) (by decide) (by decide), ← hd]; exact head_fit hf
      | 5, _, hf => rw [follows_head (j := 3) (by decide) (by decide), ← hd]; exact head_fit hf
      | 6, _, hf => rw [follows_spec (kz := 1) hl kind_6 (by decide) (by decide), ← hsp]; exact spec_fit hf (by decide)
      | 7, _, hf => rw [follows_spec (kz := 1) hl kind_7 (by decide) (by decide), ← hsp]; exact spec_fit hf (by decide)
      | 8, _, hf => rw [follows_spec (kz := 2) hl kind_8 (by decide) (by decide), ← hsp]; exact spec_fit hf (by decide)
      | 9, _, hf => rw [follows_spec (kz := 3) hl kind_9 (by decide) (by decide), ← hsp]; exact spec_fit hf (by decide)
      | 10, _, hf =>
        rw [follows_spec (kz := 0) hl kind_10 (by decide) (by decide), ← hsp]
        rw [show chkZ t ws 10 = barZ t ws from rfl, bar_fit hf]
        by_cases e1 : 4 ≤ t.lines
        · rw [if_pos e1, if_pos e1, if_neg (show ¬ ((0 : Int) < 0 ∧ t.barred = true) from fun e => absurd e.1 (by decide)), if_neg (show ¬ ((0 : Int) < 0 ∧ (0 : Int) ≠ t.d.kind) from fun e => absurd e.1 (by decide)), if_pos (show (0 : Int) = 0 ∨ t.rolled = false from .inl rfl)]
        · rw [if_neg e1, if_neg e1]
      | k + 11, hk, _ => omega
  · have hn : followsZ t (shapeB ws) = 12 := follows_no (fun j hj e => by
      obtain ⟨e1, _⟩ := (hgs j hj).1 e
      omega)
    rw [hn, if_neg (by decide)]
    match k, hk11 with
    | k + 11, _ => rfl
/-- What a line of the reference gives. -/
def refLine (t : St) (ws : List ByteArray) : Int × St :=
  if followsZ t (shapeB ws) ≠ 0 then (followsZ t (shapeB ws), t)
  else if smallT ws = false then (3, t) else takeK { t with lines := t.lines + 1 } (nameT ws) (numsT (ws.drop 1)) (keyOf (wAt ws 0))
theorem small_cons {w : ByteArray} {ws : List ByteArray} (h : numB w = false) : smallB (w :: ws) = smallB ws := by
  unfold smallB; rw [List.all_cons, h]; rfl
theorem small_head {ws : List ByteArray} {k : Nat} (hk : k < 11) (h : keyOf (wAt ws 0) = k) (h0 : ws ≠ []) : smallT ws = smallB ws := by
  cases ws with
  | nil => exact absurd rfl h0
  | cons w ws =>
    have e3 := key_is (w := wAt (w :: ws) 0) (by omega)
    rw [h] at e3
    have e : w = keyW k := e3
    show smallB ws = smallB (w :: ws)
    rw [small_cons (by rw [e]; exact name_not_num (key_nameB k hk))]
theorem nums_1 {a : ByteArray} (ha : numB a = true) : numsT [a] = [amtV a] := by simp [numsT, ha]
theorem nums_2 {a b : ByteArray} (ha : numB a = true) (hb : numB b = true) : numsT [a, b] = [amtV a, amtV b] := by simp [numsT, ha, hb]
theorem nums_n1 {n a : ByteArray} (hn : nameB n = true) (ha : numB a = true) : numsT [n, a] = [amtV a] := by simp [numsT, ha, name_not_num hn]
theorem nums_n2 {n a b : ByteArray} (hn : nameB n = true) (ha : numB a = true) (hb : numB b = true) : numsT [n, a, b] = [amtV a, amtV b] := by simp [numsT, ha, hb, name_not_num hn]
theorem nums_n {n : ByteArray} (hn : nameB n = true) : numsT [n] = [] := by simp [numsT, name_not_num hn]
theorem name_n {m n : ByteArray} (hn : nameB n = true) : nameTo m [n] = n := by simp [nameTo, name_not_num hn]
theorem name_n1 {m n a : ByteArray} (hn : nameB n = true) (ha : numB a = true) : nameTo m [n, a] = n := by simp [nameTo, name_not_num hn, ha]
theorem name_n2 {m n a b : ByteArray} (hn : nameB n = true) (ha : numB a = true) (hb : numB b = true) : nameTo m [n, a, b] = n := by simp [nameTo, name_not_num hn, ha, hb]
/-- How many numbers a line of a key has. -/
def numsK : Nat → Nat
  | 0 => 0
  | 1 => 2
  | 2 => 1
  | 3 => 1
  | 4 => 1
  | 5 => 1
  | 6 => 2
  | 7 => 0
  | 8 => 1
  | 9 => 2
  | _ => 1
theorem nums_len {ws : List ByteArray} {k : Nat} (hk : k < 11) (hf : fitB (true :: formK k) ws = true) : (numsT (ws.drop 1)).length = numsK k := by
  match k, hk, hf with
  | 0, _, hf => obtain ⟨a, b, rfl, ha, hb⟩ := fit_2n hf; show (numsT [b]).length = 0; rw [nums_n hb]; rfl
  | 1, _, hf => obtain ⟨a, b, c, rfl, ha, hb, hc⟩ := fit_3 hf; show (numsT [b, c]).length = 2; rw [nums_2 hb hc]; rfl
  | 2, _, hf => obtain ⟨a, b, rfl, ha, hb⟩ := fit_2 hf; show (numsT [b]).length = 1; rw [nums_1 hb]; rfl
  | 3, _, hf => obtain ⟨a, b, rfl, ha, hb⟩ := fit_2 hf; show (numsT [b]).length = 1; rw [nums_1 hb]; rfl
  | 4, _, hf => obtain ⟨a, b, rfl, ha, hb⟩ := fit_2 hf; show (numsT [b]).length = 1; rw [nums_1 hb]; rfl
  | 5, _, hf => obtain ⟨a, b, rfl, ha, hb⟩ := fit_2 hf; show (numsT [b]).length = 1; rw [nums_1 hb]; rfl
  | 6, _, hf => obtain ⟨a, b, c, rfl, ha, hb, hc⟩ := fit_3 hf; show (numsT [b, c]).length = 2; rw [nums_2 hb hc]; rfl
  | 7, _, hf => obtain ⟨a, rfl, ha⟩ := fit_1 hf; rfl
  | 8, _, hf => obtain ⟨a, b, c, rfl, ha, hb, hc⟩ := fit_3n hf; show (numsT [b, c]).length = 1; rw [nums_n1 hb hc]; rfl
  | 9, _, hf => obtain ⟨a, b, c, e, rfl, ha, hb, hc, he⟩ := fit_4 hf; show (numsT [b, c, e]).length = 2; rw [nums_n2 hb hc he]; rfl
  | 10, _, hf => obtain ⟨a, b, rfl, ha, hb⟩ := fit_2 hf; show (numsT [b]).length = 1; rw [nums_1 hb]; rfl
  | k + 11, h, _ => omega
theorem follows_good {t : St} {ws : List ByteArray} (h : noSp (wAt ws 0).data.toList) (h0 : ws ≠ []) (hf : followsZ t (shapeB ws) = 0) : ∃ k, k < 11 ∧ goodL ws k := by
  by_cases hx : ∃ k, k < 11 ∧ shapeB ws = shapeK k
  · obtain ⟨k, hk, e⟩ := hx
    exact ⟨k, hk, (good_shape h h0 k hk).1 e⟩
  · have : followsZ t (shapeB ws) = 12 := follows_no (fun j hj e => hx ⟨j, hj, e⟩)
    rw [this] at hf
    cases hf
theorem tk_add {t t' : St} {e : Int} {tw : Bool} {n most : Nat} (he : e = 0) :
    ((tkAdd tw n most { t' with lines := t.lines + 1 }).1 = 0 → addTo e tw n most t t' = (0, t') ∧ (tkAdd tw n most { t' with lines := t.lines + 1 }).2 = { t' with lines := t.lines + 1 }) ∧
    ((tkAdd tw n most { t' with lines := t.lines + 1 }).1 ≠ 0 → (addTo e tw n most t t').1 = (tkAdd tw n most { t' with lines := t.lines + 1 }).1) := by
  subst he
  unfold tkAdd addTo
  cases tw with
  | true => exact ⟨(fun h => (by cases h)), fun _ => rfl⟩
  | false =>
    by_cases hn : n < most
    · simp [hn]
    · simp [hn]
/-- What is taken, and what the program does with the line. -/
theorem take_line {t : St} {ws : List ByteArray} {k : Nat} (hk : k < 11) (hg : goodL ws k) (hc : chkZ t ws k = 0) :
    ((takeK { t with lines := t.lines + 1 } (nameT ws) (numsT (ws.drop 1)) k).1 = 0 → lineZ t ws = (0, (takeK { t with lines := t.lines + 1 } (nameT ws) (numsT (ws.drop 1)) k).2)) ∧
    ((takeK { t with lines := t.lines + 1 } (nameT ws) (numsT (ws.drop 1)) k).1 ≠ 0 → (lineZ t ws).1 = (takeK { t with lines := t.lines + 1 } (nameT ws) (numsT (ws.drop 1)) k).1) := by
  obtain ⟨hkey, hf⟩ := hg
  have yes : ∀ t', lnOf t ws k = (0, t') → lineZ t ws = (0, { t' with lines := t.lines + 1 }) := fun t' h => line_of hkey h
  have no : ∀ e, (lnOf t ws k).1 = e → e ≠ 0 → (lineZ t ws).1 = e := fun e h he => line_err (by rw [hkey]; exact h) he
  have add : ∀ (e : Int) (tw : Bool) (n most : Nat) (t' : St) (r : Int × St), e = 0 → r = tkAdd tw n most { t' with lines := t.lines + 1 } → lnOf t ws k = addTo e tw n most t t' → (r.1 = 0 → lineZ t ws = (0, r.2)) ∧ (r.1 ≠ 0 → (lineZ t ws).1 = r.1) := by
    intro e tw n most t' r he hr hl
    obtain ⟨h1, h2⟩ := tk_add (t := t) (t' := t') (tw := tw) (n := n) (most := most) he
    subst hr
    refine ⟨fun h => ?_, fun h => no _ (by rw [hl]; exact h2 h) h⟩
    obtain ⟨a, b⟩ := h1 h
    rw [b]
    exact yes t' (by rw [hl]; exact a)
  have simp0 : ∀ (t' : St) (r : Int × St), r = (0, { t' with lines := t.lines + 1 }) → lnOf t ws k = (0, t') → (r.1 = 0 → lineZ t ws = (0, r.2)) ∧ (r.1 ≠ 0 → (lineZ t ws).1 = r.1) := by
    intro t' r hr hl
    subst hr
    exact ⟨fun _ => yes t' hl, fun h => absurd rfl h⟩
  match k, hk, hf, hc with
  | 0, _, hf, hc =>
    obtain ⟨a, b, rfl, ha, hb⟩ := fit_2n hf
    refine simp0 { t with d := { t.d with name := b } } _ ?_ (headTo_z hc)
    show (0, _) = _
    rw [show nameT [a, b] = b from name_n hb]
  | 1, _, hf, hc =>
    obtain ⟨a, b, c, rfl, ha, hb, hcc⟩ := fit_3 hf
    refine simp0 { t with d := { t.d with kind := 1, pool := amtV b, pick := amtV c } } _ ?_ (headTo_z hc)
    show takeK _ _ (numsT [b, c]) 1 = _
    rw [nums_2 hb hcc]; rfl
  | 2, _, hf, hc =>
    obtain ⟨a, b, rfl, ha, hb⟩ := fit_2 hf
    refine simp0 { t with d := { t.d with kind := 2, cls := amtV b } } _ ?_ (headTo_z hc)
    show takeK _ _ (numsT [b]) 2 = _
    rw [nums_1 hb]; rfl
  | 3, _, hf, hc =>
    obtain ⟨a, b, rfl, ha, hb⟩ := fit_2 hf
    refine simp0 { t with d := { t.d with kind := 3, size := amtV b } } _ ?_ (headTo_z hc)
    show takeK _ _ (numsT [b]) 3 = _
    rw [nums_1 hb]; rfl
  | 4, _, hf, hc =>
    obtain ⟨a, b, rfl, ha, hb⟩ := fit_2 hf
    refine simp0 { t with d := { t.d with round := amtV b } } _ ?_ (headTo_z hc)
    show takeK _ _ (numsT [b]) 4 = _
    rw [nums_1 hb]; rfl
  | 5, _, hf, hc =>
    obtain ⟨a, b, rfl, ha, hb⟩ := fit_2 hf
    refine simp0 { t with d := { t.d with price := amtV b } } _ ?_ (headTo_z hc)
    show takeK _ _ (numsT [b]) 5 = _
    rw [nums_1 hb]; rfl
  | 6, _, hf, hc =>
    obtain ⟨a, b, c, rfl, ha, hb, hcc⟩ := fit_3 hf
    refine add (chkZ t [a, b, c] 6) (hasTier t.d.tiers (amtV b)) t.d.tiers.length 12 { t with d := { t.d with tiers := t.d.tiers ++ [(amtV b, amtV c)] } } _ hc ?_ rfl
    show takeK _ _ (numsT [b, c]) 6 = _
    rw [nums_2 hb hcc]; rfl
  | 7, _, hf, hc =>
    obtain ⟨a, rfl, ha⟩ := fit_1 hf
    exact simp0 { t with d := { t.d with roll := true }, rolled := true } _ rfl (headTo_z hc)
  | 8, _, hf, hc =>
    obtain ⟨a, b, c, rfl, ha, hb, hcc⟩ := fit_3n hf
    refine add (chkZ t [a, b, c] 8) (hasPlace t.d.places b) t.d.places.length 12 { t with d := { t.d with places := t.d.places ++ [(b, amtV c)] } } _ hc ?_ rfl
    show takeK _ (nameTo ⟨#[]⟩ [b, c]) (numsT [b, c]) 8 = _
    rw [nums_n1 hb hcc, name_n1 hb hcc]; rfl
  | 9, _, hf, hc =>
    obtain ⟨a, b, c, e, rfl, ha, hb, hcc, hee⟩ := fit_4 hf
    refine add (chkZ t [a, b, c, e] 9) (hasQuota t.d.quotas b) t.d.quotas.length 12 { t with d := { t.d with quotas := t.d.quotas ++ [(b, amtV c, amtV e)] } } _ hc ?_ rfl
    show takeK _ (nameTo ⟨#[]⟩ [b, c, e]) (numsT [b, c, e]) 9 = _
    rw [nums_n2 hb hcc hee, name_n2 hb hcc hee]; rfl
  | 10, _, hf, hc =>
    obtain ⟨a, b, rfl, ha, hb⟩ := fit_2 hf
    refine add (chkZ t [a, b] 10) (hasBar t.d.barred (amtV b)) t.d.barred.length 40 { t with d := { t.d with barred := t.d.barred ++ [amtV b] }, barred := true } _ hc ?_ rfl
    show takeK _ _ (numsT [b]) 10 = _
    rw [nums_1 hb]; rfl
  | k + 11, h, _, _ => omega
/-- The reference's line and the program's. -/
theorem ref_line {t : St} {ws : List ByteArray} (h : noSp (wAt ws 0).data.toList) (h0 : ws ≠ []) (hl : 0 ≤ t.lines) :
    ((refLine t ws).1 = 0 → lineZ t ws = (0, (refLine t ws).2)) ∧ ((refLine t ws).1 ≠ 0 → (lineZ t ws).1 = (refLine t ws).1) := by
  have hc := chk_follows (t := t) h h0 hl
  unfold refLine
  by_cases hF : followsZ t (shapeB ws) = 0
  · rw [if_pos hF] at hc
    rw [if_neg (fun e => e hF)]
    obtain ⟨k, hk, hg⟩ := follows_good h h0 hF
    have hkey := hg.1
    rw [hkey] at hc ⊢
    have hsm := small_head hk hkey h0
    cases hs : smallB ws with
    | false =>
      rw [hs] at hc hsm
      rw [if_pos hsm]
      refine ⟨fun e => absurd e (by show (3 : Int) ≠ 0; decide), fun _ => ?_⟩
      rw [chk_err hkey (by rw [hc]; decide), hc]; rfl
    | true =>
      rw [hs] at hc hsm
      rw [if_neg (by rw [hsm]; decide)]
      exact take_line hk hg hc
  · rw [if_neg hF] at hc
    rw [if_pos hF]
    refine ⟨fun e => absurd e hF, fun _ => ?_⟩
    rw [chk_err rfl (by rw [hc]; exact hF), hc]
end Go.Proofs.YteikkpiginfbkaaGreatDoor

namespace Go.Proofs.YteikkpiginfbkaaGreatDoor
open Go.RowKit

theorem nameTo_snoc (n : ByteArray) : ∀ (ws : List ByteArray) (w : ByteArray), nameTo n (ws ++ [w]) = if numB w = true then nameTo n ws else w
  | [], w => rfl
  | x :: ws, w => by
    show nameTo _ (ws ++ [w]) = _
    rw [nameTo_snoc]; rfl
theorem numsT_snoc : ∀ (ws : List ByteArray) (w : ByteArray), numsT (ws ++ [w]) = if numB w = true then numsT ws ++ [amtV w] else numsT ws
  | [], w => by
    show (if numB w = true then amtV w :: [] else []) = _
    rfl
  | x :: ws, w => by
    show (if numB x = true then amtV x :: numsT (ws ++ [w]) else numsT (ws ++ [w])) = _
    rw [numsT_snoc]
    show _ = if numB w = true then (if numB x = true then amtV x :: numsT ws else numsT ws) ++ [amtV w] else (if numB x = true then amtV x :: numsT ws else numsT ws)
    by_cases h1 : numB x = true
    · by_cases h2 : numB w = true
      · simp only [if_pos h1, if_pos h2]; rfl
      · simp only [if_pos h1, if_neg h2]
    · by_cases h2 : numB w = true
      · simp only [if_neg h1, if_pos h2]
      · simp only [if_neg h1, if_neg h2]
theorem smallB_snoc (ws : List ByteArray) (w : ByteArray) : smallB (ws ++ [w]) = (smallB ws && (!numB w || decide (amtV w ≤ 1000000000))) := by unfold smallB; simp
theorem drop_take_snoc1 {ws : List ByteArray} {k : Nat} (hk : 1 ≤ k) (h : k < ws.length) : (ws.take (k + 1)).drop 1 = (ws.take k).drop 1 ++ [wAt ws k] := by
  rw [take_snoc h, List.drop_append_of_le_length (by rw [List.length_take]; omega), wAt_get h]
theorem small_pre {ws : List ByteArray} {k : Nat} (h : smallB ((ws.take k).drop 1) = false) : smallT ws = false := by
  unfold smallT smallB at *
  rw [List.all_eq_false] at h ⊢
  obtain ⟨x, hx, hp⟩ := h
  refine ⟨x, ?_, hp⟩
  have e : (ws.take k).drop 1 = (ws.drop 1).take (k - 1) := by rw [List.drop_take]
  rw [e] at hx
  exact List.mem_of_mem_take hx
theorem rtake_any (base B : Nat) (t : St) (vt vp vq vb sv : Value) (s name : ByteArray) (l : List Int) (k : Nat) (w : World) (hR : StAt base w B t vt vp vq vb) (hg : TkArg base B t vt vp vq vb sv l w) (hlen : l.length = numsK k) (hk : k < 11) (hs : s = keyW k) :
    Calls Tryz.prog 109 #[.pointer (some ⟨B, 0, none⟩), .string s, .string name, sv] w fun e w' => TakeR base B vt vp vq vb (takeK t name l k) w e w' := by
  match k, hk, hs, hlen with
  | 0, _, hs, _ => exact rtake0_any base B t vt vp vq vb sv s name l w hR hs
  | 1, _, hs, hl => exact rtake1_any base B t vt vp vq vb sv s name l w hR hg hl hs
  | 2, _, hs, hl => exact rtake2_any base B t vt vp vq vb sv s name l w hR hg hl hs
  | 3, _, hs, hl => exact rtake3_any base B t vt vp vq vb sv s name l w hR hg hl hs
  | 4, _, hs, hl => exact rtake4_any base B t vt vp vq vb sv s name l w hR hg hl hs
  | 5, _, hs, hl => exact rtake5_any base B t vt vp vq vb sv s name l w hR hg hl hs
  | 6, _, hs, hl => exact rtake6_any base B t vt vp vq vb sv s name l w hR hg hl hs
  | 7, _, hs, _ => exact rtake7_any base B t vt vp vq vb sv s name l w hR hs
  | 8, _, hs, hl => exact rtake8_any base B t vt vp vq vb sv s name l w hR hg hl hs
  | 9, _, hs, hl => exact rtake9_any base B t vt vp vq vb sv s name l w hR hg hl hs
  | 10, _, hs, hl => exact rtake10_any base B t vt vp vq vb sv s name l w hR hg hl hs
  | k + 11, h, _, _ => omega
/-- What line leaves. -/
def LineU (base B : Nat) (vt vp vq vb : Value) (r : Int × St) (w : World) (e : Ending) (w' : World) : Prop :=
  Only (RdS B vt vp vq vb) w w' ∧ ((r.1 = 0 ∧ e = .returned (.int .i64 0) ∧ ∃ vt' vp' vq' vb', StAt base w' B r.2 vt' vp' vq' vb') ∨ (r.1 ≠ 0 ∧ e = .returned (.int .i64 r.1)))
theorem lineU_of {base B : Nat} {vt vp vq vb : Value} {r : Int × St} {w w1 w' : World} {e : Ending} (hO : Only (RdS B vt vp vq vb) w w1) (hT : TakeR base B vt vp vq vb r w1 e w') (hS : ∀ i, i < w.heap.size → RdS B vt vp vq vb i → RdS B vt vp vq vb i) : LineU base B vt vp vq vb r w e w' := by
  obtain ⟨h1, h2, h3⟩ := hT
  refine ⟨hO.trans' h1 hS, ?_⟩
  by_cases h : r.1 = 0
  · exact .inl ⟨h, by rw [h2, h], h3⟩
  · exact .inr ⟨h, h2⟩
theorem rdS_old {base B : Nat} {w : World} {t : St} {vt vp vq vb : Value} (h : StAt base w B t vt vp vq vb) {i : Nat} (hi : RdS B vt vp vq vb i) : i < w.heap.size := by
  rcases hi with e | e | e | e | e
  · rw [e]; exact h.lt
  · obtain ⟨c, hc⟩ := ownR_ty h.tiers e; exact (Array.getElem?_eq_some_iff.1 hc).1
  · obtain ⟨c, hc⟩ := ownR_ty h.places e; exact (Array.getElem?_eq_some_iff.1 hc).1
  · obtain ⟨c, hc⟩ := ownR_ty h.quotas e; exact (Array.getElem?_eq_some_iff.1 hc).1
  · obtain ⟨c, hc⟩ := ownR_ty h.bars e; exact (Array.getElem?_eq_some_iff.1 hc).1
theorem own_block {a : Addr} {n c : Nat} {w : World} {b e s m : Nat} {xs : List Value} (h : w.ownsRow b e s (.slice (some a) n c) m xs) : b ≤ a.block := by
  rcases h.2 with ⟨hv, _⟩ | ⟨g, cap, cur, hv, hb, _⟩
  · cases hv
  · simp only [Value.slice.injEq, Option.some.injEq] at hv
    rw [hv.1]; exact hb
set_option maxRecDepth 100000 in
set_option maxHeartbeats 8000000 in
theorem rline_any (base B : Nat) (t : St) (vt vp vq vb : Value) (s : ByteArray) (w : World) (hR : StAt base w B t vt vp vq vb) (hb : base ≤ w.heap.size) (hS : StB t) (hla : 0 ≤ t.lines) (hlb : t.lines ≤ 1000000) (hs : s.size ≤ 4000) :
    Calls Tryz.prog 69 #[.pointer (some ⟨B, 0, none⟩), .string s] w fun e w' => LineU base B vt vp vq vb (refLine t (wordsB s)) w e w' := by
  have HR := Lib.hid hR
  have HW := Lib.hid (rwords_any s 32 w (by omega))
  have hws := words_pos s
  have hwl : ∀ x ∈ wordsB s, x.size ≤ 4000 := fun x hx => Nat.le_trans (words_le s x hx) hs
  have hwn := words_cnt s
  have hsp : noSp (wAt (wordsB s) 0).data.toList := by
    have h1 : (wAt (wordsB s) 0).data.toList ∈ (wordsB s).map (·.data.toList) := List.mem_map_of_mem (wAt_mem hws)
    rw [words_cut] at h1
    exact cutC_noC 32 _ _ h1
  have HSM := Lib.hid hS
  have hbw := hb
  have hBw := hR.lt
  unfold WordsR at HW
  rw [wordsC_sp] at HW
  clear hR hb hS
  generalize wordsB s = ws at *
  go_enter Tryz.func69, Tryz.ntmps69
  go_wp2_with fail
  refine HW.out.mono ?_
  rintro e w2 ⟨v, rfl, hown, hO2⟩
  obtain ⟨aw, cw, rfl⟩ := slice_of_own hown
  have HWO := Lib.hid hown
  have HO2 := Lib.hid hO2
  clear hown hO2 HW
  go_wp2_with fail
  refine (rshape_any _ cw aw ws w2 HWO.out hws (by omega) (fun x hx => by have := hwl x hx; omega)).mono ?_
  rintro e w3 ⟨rfl, hO3⟩
  have HWO := Lib.hid (hO3.owns HWO.out (fun _ _ h => h))
  have HO3 := Lib.hid (HO2.out.trans hO3)
  clear hO3
  go_wp2_with fail
  refine (rfollows_any base B t vt vp vq vb (shapeB ws) w3 (HR.out.still HO3.out)).mono ?_
  rintro e w3' ⟨rfl, rfl⟩
  by_cases hF : followsZ t (shapeB ws) = 0
  · obtain ⟨k, hk, hg⟩ := follows_good (t := t) hsp (fun e => by rw [e] at hws; cases hws) hF
    have HF := Lib.hid hF
    have HGK := Lib.hid hg
    have HNL := Lib.hid (nums_len hk hg.2)
    rw [hF]
    clear hF hg hsp
    obtain ⟨i0, hi, hz0, hz1, hz2⟩ := info_parts Tryz.infoI
    have HI := Lib.hid hi
    have HI0 := Lib.hid hz0
    have HI1 := Lib.hid hz1
    have HI2 := Lib.hid hz2
    have HHL := Lib.hid hwl
    have HB3 := Lib.hid HO3.out.size
    clear hi hz0 hz1 hz2 hwl
    go_wp2_with fail
    go_loopw [7, 8, 9] (fun vn vl vi wr => ∃ i : Nat, vi = .int .i64 i ∧ 1 ≤ i ∧ i ≤ ws.length ∧ vn = .string (nameTo ⟨#[]⟩ ((ws.take i).drop 1)) ∧ smallB ((ws.take i).drop 1) = true ∧ wr.ownsRow w3.heap.size 3 1 vl (numsT ((ws.take i).drop 1)).length (irow (numsT ((ws.take i).drop 1))) ∧ (numsT ((ws.take i).drop 1)).length ≤ i ∧ Only (fun _ => False) w3 wr) (fun _ _ vi _ => ws.length - (intOf vi).toNat)
    case atStart =>
      have e : (ws.take 1).drop 1 = [] := List.drop_of_length_le (by rw [List.length_take]; omega)
      refine ⟨1, rfl, Nat.le_refl _, hws, ?_, ?_, ?_, ?_, Only.refl _ _⟩
      · rw [e]; rfl
      · rw [e]; rfl
      · rw [e]; exact World.ownsRow_nil _ _ _ _
      · rw [e]; exact Nat.zero_le _
    case round =>
      obtain ⟨i, rfl, hi1, hi, rfl, hsm, hown, hln, hO⟩ := hrel
      have HSS := Lib.hid hsm
      have HOWN := Lib.hid hown
      have HO := Lib.hid hO
      have HOT := Lib.hid (HO3.out.trans hO)
      have HWR := Lib.hid (hO.owns HWO.out (fun _ _ h => h))
      have hszw := hO.size
      obtain ⟨al, cl, rfl⟩ := slice_of_own hown
      clear hsm hown hO
      by_cases hlt : i < ws.length
      · have j1 : (i : Int) < ws.length := by omega
        have j0 : 0 ≤ (i : Int) := by omega
        obtain ⟨g, rfl, hg, hc1, hc2, d0⟩ := str_cell HWR.out hlt
        have HLT := Lib.hid hlt
        have e1 := drop_take_snoc1 hi1 hlt
        have HNA := Lib.hid (nameTo_snoc ⟨#[]⟩ ((ws.take i).drop 1) (wAt ws i))
        have HNU := Lib.hid (numsT_snoc ((ws.take i).drop 1) (wAt ws i))
        have HSB := Lib.hid (smallB_snoc ((ws.take i).drop 1) (wAt ws i))
        have HPR := Lib.hid (fun (h : smallB ((ws.take (i + 1)).drop 1) = false) => small_pre h)
        rw [← e1] at HNA HNU HSB
        clear e1
        have hxs : (wAt ws i).size ≤ 4000 := HHL.out _ (by rw [← wAt_get hlt]; exact List.getElem_mem hlt)
        rw [HSS.out] at HSB
        obtain ⟨q1, hq1⟩ : ∃ q, (ws.take (i + 1)).drop 1 = q := ⟨_, rfl⟩
        rw [hq1] at HNA HNU HSB HPR
        have HQ1 := Lib.hid hq1
        clear hq1
        generalize (ws.take i).drop 1 = q0 at *
        generalize wAt ws i = x at *
        obtain ⟨bn, hbn⟩ : ∃ b, numB x = b := ⟨_, rfl⟩
        have HN := Lib.hid (fun w => rnumeral_any x bn w (by omega) hbn)
        have HAM := Lib.hid (fun (h : numB x = true) w => ramount_any x w (by omega) h)
        have HBN := Lib.hid hbn
        rw [hbn] at HNA HNU HSB
        have HFIN := Lib.hid (show ∀ w2, Only (fun _ => False) wr w2 → w2.cell? ⟨g, i, none⟩ = some (.string x) from fun w2 h => h.cell d0 id)
        clear hbn hlt hxs
        cases bn
        · have h1 := HNA.out
          have h2 := HNU.out
          have h3 := HSB.out
          simp only [Bool.false_eq_true, if_false, Bool.not_false, Bool.true_or, Bool.and_true] at h1 h2 h3
          have H1 := Lib.hid h1
          have H2 := Lib.hid h2
          have H3 := Lib.hid h3
          clear h1 h2 h3 HNA HNU HSB
          go_wp2_with fail
          refine (HN.out _).mono ?_
          rintro e w4 ⟨rfl, hO4⟩
          have d4 := HFIN.out w4 hO4
          have HOW4 := Lib.hid (hO4.owns HOWN.out (fun _ _ h => h))
          have HO4 := Lib.hid (HO.out.trans hO4)
          clear hO4
          go_wp2_with fail
          go_roundw
          case rel => exact ⟨i + 1, by go_num, by omega, HLT.out, by rw [HQ1.out, H1.out], by rw [HQ1.out]; exact H3.out, by rw [HQ1.out, H2.out]; exact HOW4.out, by rw [HQ1.out, H2.out]; omega, HO4.out⟩
          case measure => simp [intOf]; have := HLT.out; omega
        · have h1 := HNA.out
          have h2 := HNU.out
          simp only [if_true] at h1 h2
          have H1 := Lib.hid h1
          have H2 := Lib.hid h2
          clear h1 h2 HNA HNU
          go_wp2_with fail
          refine (HN.out _).mono ?_
          rintro e w4 ⟨rfl, hO4⟩
          have d4 := HFIN.out w4 hO4
          have HOW4 := Lib.hid (hO4.owns HOWN.out (fun _ _ h => h))
          have HO4 := Lib.hid (HO.out.trans hO4)
          clear hO4
          go_wp2_with fail
          refine (HAM.out HBN.out _).mono ?_
          rintro e w5 ⟨⟨n, rfl, hn⟩, hO5⟩
          have HOW5 := Lib.hid (hO5.owns HOW4.out (fun _ _ h => h))
          have HO5 := Lib.hid (HO4.out.trans hO5)
          clear hO5
          by_cases hm : amtV x ≤ 1000000000
          · have h3 := HSB.out
            rw [decide_eq_true hm] at h3
            have H3 := Lib.hid (show smallB q1 = true by rw [h3]; rfl)
            rw [decide_eq_true hm]
            obtain rfl := hn hm
            generalize amtV x = n at *
            have hbs := (HO5.out.alloc (.cells #[.int .i64 n] 3)).size
            clear hm h3 HSB
            go_wp2_with (first | (refine wpList_append_lies _ rfl _ _ 24 rfl w3.heap.size 3 i0 _ 1 8 Tryz.underlying24 HI.out HI0.out HI1.out HI2.out rfl (by decide) _ _ _ rfl (HOW5.out.alloc _) ⟨w5.heap.size, 0, none⟩ 1 1 [.int .i64 n] rfl rfl (by exact newsR' w5 _ _) (one_oneR _ rfl) (by decide) (by unfold maxLen; omega) (by omega) hbs _ rfl ?_; intro g2 cap2 w6 hown1 hgrow hat hlt5))
            have HO6 := Lib.hid ((HO5.out.alloc (.cells #[.int .i64 n] 3)).trans' (S := fun _ => False) (T := fun i => (Value.slice al (numsT q0).length cl).ownBlock = some i) ((Only.refl _ _).grown hgrow (fun i e _ => e)) (fun i hi e => by have := ownR_ge HOW5.out e; omega))
            have HW6 := Lib.hid (show w6.ownsRow w3.heap.size 3 1 (.slice (some ⟨g2, 0, none⟩) ((numsT q0).length + 1) cap2) (numsT q1).length (irow (numsT q1)) by
              rw [H2.out, irow_app, List.length_append]; exact hown1)
            go_roundw
            case rel => exact ⟨i + 1, by go_num, by omega, HLT.out, by rw [HQ1.out, H1.out], by rw [HQ1.out]; exact H3.out, by rw [HQ1.out]; exact HW6.out, by rw [HQ1.out, H2.out, List.length_append, List.length_singleton]; omega, HO6.out⟩
            case measure => simp [intOf]; have := HLT.out; omega
          · have h3 := HSB.out
            rw [decide_eq_false hm] at h3
            have HRL := Lib.hid (show refLine t ws = (3, t) by
              unfold refLine
              rw [if_neg (fun e => e HF.out), if_pos (HPR.out (by rw [h3]; rfl))])
            rw [decide_eq_false hm]
            clear hm h3 HSB hn
            go_wp2_with fail
            go_ret
            rw [HRL.out]
            exact ⟨(HO3.out.trans HO5.out).mono (fun _ _ h => h.elim), .inr ⟨by show (3 : Int) ≠ 0; decide, rfl⟩⟩
      · obtain rfl : i = ws.length := by omega
        have j1 : ¬ (ws.length : Int) < ws.length := by omega
        have e1 : (ws.take ws.length).drop 1 = ws.drop 1 := by rw [List.take_length]
        rw [e1] at HSS HOWN hln ⊢
        have HRL := Lib.hid (show refLine t ws = takeK { t with lines := t.lines + 1 } (nameT ws) (numsT (ws.drop 1)) k by
          unfold refLine
          rw [if_neg (fun e => e HF.out), if_neg (by show ¬ smallB (ws.drop 1) = false; rw [HSS.out]; decide), HGK.out.1])
        have HNM := Lib.hid (show nameTo ⟨#[]⟩ (ws.drop 1) = nameT ws from rfl)
        obtain ⟨td, htd⟩ : ∃ td, ws.drop 1 = td := ⟨_, rfl⟩
        rw [htd] at HSS HOWN hln HRL HNL HNM ⊢
        clear htd e1
        have HRW := Lib.hid (HR.out.still HOT.out)
        have k13 : wr.cell? ⟨B, 13, none⟩ = some (.int .i64 t.lines) := HRW.out.cell 13 rfl
        have z13 := HRW.out.frz 13
        obtain ⟨g, rfl, hg, hc1, hc2, d0⟩ := str_cell HWR.out hws
        have hgB : g ≠ B := fun e => by have := own_block HWO.out; dsimp only at this; have := HB3.out; omega
        have HKW := Lib.hid (show wAt ws 0 = keyW k by
          have := key_is (w := wAt ws 0) (by rw [HGK.out.1]; exact hk)
          rw [HGK.out.1] at this
          exact this)
        have hlnn : ((Int.ofNat 0) : Int) = 0 := rfl
        have HR1 := Lib.hid (HRW.out.set (t' := { t with lines := t.lines + 1 }) 13 (.int .i64 (t.lines + 1)) rfl rfl rfl rfl rfl)
        have HOS := Lib.hid (RdS.set (B := B) (vt := vt) (vp := vp) (vq := vq) (vb := vb) (HOT.out.mono (fun _ _ h => h.elim)) 13 (.int .i64 (t.lines + 1)))
        have HTA := Lib.hid (show TkArg base B { t with lines := t.lines + 1 } vt vp vq vb (.slice al (numsT td).length cl) (numsT td) (wr.setCell ⟨B, 13, none⟩ (.int .i64 (t.lines + 1))) from by
          obtain ⟨s1, s2, s3, s4⟩ := HSM.out
          refine ⟨?_, fun a n c e hr => ?_, ?_, by show t.d.tiers.length ≤ 1000; omega, by show t.d.places.length ≤ 1000; omega, by show t.d.quotas.length ≤ 1000; omega, by show t.d.barred.length ≤ 1000; omega⟩
          · exact pts_of_own (((Only.refl (fun k => k = B) wr).setCell (.inl rfl) _).owns HOWN.out (fun j hj e => by have := ownR_ge HOWN.out hj; have := HB3.out; omega)) (by omega)
          · cases e
            have h1 := own_block HOWN.out
            have h2 := rdS_old HR.out hr
            have := HB3.out
            omega
          · rw [World.size_setCell]; have := HB3.out; omega)
        have d1 : (wr.setCell ⟨B, 13, none⟩ (.int .i64 (t.lines + 1))).cell? ⟨g, 0, none⟩ = some (.string (wAt ws 0)) := ((Only.refl (fun k => k = B) wr).setCell (.inl rfl) _).cell d0 hgB
        clear hlnn
        go_wp2_with fail
        refine (rtake_any base B { t with lines := t.lines + 1 } vt vp vq vb _ (wAt ws 0) _ (numsT td) k _ HR1.out HTA.out HNL.out hk HKW.out).mono ?_
        intro e w6 hT
        rw [HNM.out] at hT
        rw [← HRL.out] at hT
        have hL := lineU_of HOS.out hT (fun _ _ h => h)
        obtain ⟨hO6, h7, h8⟩ := hT
        subst h7
        go_wp2_with fail
        go_ret
        exact hL
  · have HRL := Lib.hid (show refLine t ws = (followsZ t (shapeB ws), t) by unfold refLine; rw [if_pos hF])
    have HFN := Lib.hid hF
    generalize followsZ t (shapeB ws) = F at *
    have i1 : (F != 0) = true := bne_iff_ne.2 hF
    clear hF
    go_wp2_with fail
    go_ret
    rw [HRL.out]
    exact ⟨HO3.out.mono (fun _ _ h => h.elim), .inr ⟨HFN.out, rfl⟩⟩
end Go.Proofs.YteikkpiginfbkaaGreatDoor

namespace Go.Proofs.YteikkpiginfbkaaGreatDoor
open Go.RowKit

theorem results_rparse {W : World} {tmps : Array Value} {P1 : Nat} {cs : Array Value} {pos err : Value} (h : W.heap[P1]? = some (.cells cs 33 (0, 0))) (hz : cs.size = 13) (h2 : tmps.getD 2 undef = .pointer (some ⟨P1, 0, none⟩)) (h3 : tmps.getD 3 undef = pos) (h4 : tmps.getD 4 undef = err) :
    (results Tryz.f43 tmps).run Tryz.prog W = .ok (.tuple #[.agg cs, pos, err]) W := by
  have h2' : tmps[2]?.getD undef = .pointer (some ⟨P1, 0, none⟩) := by simpa using h2
  have h3' : tmps[3]?.getD undef = pos := by simpa using h3
  have h4' : tmps[4]?.getD undef = err := by simpa using h4
  have l1 := run_loadVar_row (P := Tryz.prog) W P1 33 33 cs (0, 0) _ h Tryz.underlying33 rfl (by rw [hz]; exact Tryz.infoDr)
  simp [results, Tryz.results43, h2', h3', h4', asAddr, l1]
theorem runL_snoc_cur {t : St} {p : Nat} {cur r D : List UInt8} {k f : Nat} (hc : cur = (D.take k).drop f) (hr : r = D.drop k) (hk : k < D.length) (hf : f ≤ k) (hx : D[k] ≠ 10) : runL t p cur r = runL t p ((D.take (k + 1)).drop f) (D.drop (k + 1)) := by
  subst hc hr
  rw [List.drop_eq_getElem_cons hk, runL_step hx, take_snoc hk, List.drop_append_of_le_length (by rw [List.length_take]; omega)]
theorem runL_nl_cur {t : St} {p : Nat} {cur r D : List UInt8} {k : Nat} (hr : r = D.drop k) (hk : k < D.length) (hx : D[k] = 10) : runL t p cur r = if (lineZ t (wordsB (arrB cur))).1 = 0 then runL (lineZ t (wordsB (arrB cur))).2 (p + cur.length + 1) [] (D.drop (k + 1)) else ((lineZ t (wordsB (arrB cur))).1, p, t) := by
  subst hr
  rw [List.drop_eq_getElem_cons hk, hx]; rfl
theorem line_bd {t : St} {ws : List ByteArray} (h : StB t) (hl : (lineZ t ws).1 = 0) : StB (lineZ t ws).2 ∧ (lineZ t ws).2.lines = t.lines + 1 := by
  have h1 : (lnOf t ws (keyOf (wAt ws 0))).1 = 0 := by
    by_cases h2 : (lnOf t ws (keyOf (wAt ws 0))).1 = 0
    · exact h2
    · rw [line_err rfl h2] at hl; exact absurd hl h2
  rw [line_ok h1]
  exact ⟨lnOf_bd ws _ h, rfl⟩
theorem st0_bd : StB st0 := ⟨Nat.zero_le _, Nat.zero_le _, Nat.zero_le _, Nat.zero_le _⟩
theorem ref_words_sp (s : ByteArray) : noSp (wAt (wordsB s) 0).data.toList := by
  have h1 : (wAt (wordsB s) 0).data.toList ∈ (wordsB s).map (·.data.toList) := List.mem_map_of_mem (wAt_mem (words_pos s))
  rw [words_cut] at h1
  exact cutC_noC 32 _ _ h1
theorem words_ne (s : ByteArray) : wordsB s ≠ [] := fun e => by have := words_pos s; rw [e] at this; cases this
set_option maxRecDepth 100000 in
set_option maxHeartbeats 4000000 in
theorem rparse13_big (s : ByteArray) (w : World) (hs : ¬ s.size ≤ 4000) (hs2 : s.size ≤ 281474976710656) :
    Calls Tryz.prog 43 #[.string s] w fun e w' => ParseRu (parseZ s) w e w' := by
  have hq : parseZ s = (2, 4000, dr0) := by unfold parseZ; rw [if_neg hs]
  rw [hq]
  have i1 : (4000 : Int) < s.size := by omega
  have HZ := Lib.hid (heap_alloc_last w (.cells zeroD 33))
  have HO := Lib.hid ((Only.refl (fun _ => False) w).alloc (.cells zeroD 33))
  clear hq hs
  go_enter Tryz.func43, Tryz.ntmps43
  go_wp2_with (first | (refine wpList_store_row rfl 33 _ _ rfl w.heap.size zeroD rfl rfl 33 _ HZ.out Tryz.infoDr rfl zeroD_one ?_))
  exact bodyPost_ret (results_rparse (setRow_heap _ _ _ _ _ _ HZ.out) rfl rfl rfl rfl) rfl ⟨_, _, _, _, rfl, dr0_own _ _, HO.out.setRow (by omega) _⟩
set_option maxRecDepth 100000 in
set_option maxHeartbeats 8000000 in
theorem rparse13_small (s : ByteArray) (w : World) (hs : s.size ≤ 4000) :
    Calls Tryz.prog 43 #[.string s] w fun e w' => ParseRu (parseZ s) w e w' := by
  have HQ := Lib.hid (show parseZ s = (let q := runL st0 0 [] s.data.toList; if q.1 = 0 then (0, 0, q.2.2.d) else (q.1, q.2.1, dr0)) by unfold parseZ; rw [if_pos hs])
  have i1 : ¬ (4000 : Int) < s.size := by omega
  have hsl : s.data.toList.length = s.size := Array.length_toList
  have HSL := Lib.hid hsl
  have HZ := Lib.hid (heap_alloc_last w (.cells zeroD 33))
  have HO := Lib.hid ((Only.refl (fun _ => False) w).alloc (.cells zeroD 33))
  have HSZ := Lib.hid (show (w.alloc (.cells zeroD 33)).heap.size = w.heap.size + 1 by simp)
  clear hsl
  go_enter Tryz.func43, Tryz.ntmps43
  go_upto_region 3 with (fail)
  unfold zeroD at HZ HO HSZ
  generalize World.alloc w _ = w1 at *
  have HST := Lib.hid (heap_alloc_last w1 (.cells (stCells st0 (.slice none 0 0) (.slice none 0 0) (.slice none 0 0) (.slice none 0 0)) 130))
  have HO1 := Lib.hid ((Only.refl (fun _ => False) w1).alloc (.cells (stCells st0 (.slice none 0 0) (.slice none 0 0) (.slice none 0 0) (.slice none 0 0)) 130))
  have HSZ2 := Lib.hid (show (w1.alloc (.cells (stCells st0 (.slice none 0 0) (.slice none 0 0) (.slice none 0 0) (.slice none 0 0)) 130)).heap.size = w1.heap.size + 1 by simp)
  go_wp2_with fail
  have HZ2 := Lib.hid (row_still HO1.out HZ.out)
  have hst : stCells st0 (.slice none 0 0) (.slice none 0 0) (.slice none 0 0) (.slice none 0 0) = #[.string ⟨#[]⟩, .int .i64 0, .int .i64 0, .int .i64 0, .int .i64 0, .int .i64 0, .slice none 0 0, .bool false, .slice none 0 0, .int .i64 0, .int .i64 0, .slice none 0 0, .slice none 0 0, .int .i64 0, .bool false, .bool false] := rfl
  rw [← hst] at *
  clear hst
  have HOT := Lib.hid (HO.out.trans HO1.out)
  rw [HSZ.out] at HST HSZ2 ⊢
  generalize hw2 : World.alloc w1 _ = w2 at *
  clear hw2
  have HSA := Lib.hid (show StAt (w.heap.size + 2) w2 (w.heap.size + 1) st0 (.slice none 0 0) (.slice none 0 0) (.slice none 0 0) (.slice none 0 0) from ⟨HST.out, World.ownsRow_nil _ _ _ _, World.ownsRow_nil _ _ _ _, World.ownsRow_nil _ _ _ _, World.ownsRow_nil _ _ _ _⟩)
  have HRUN := Lib.hid (show runL st0 0 [] s.data.toList = runL st0 0 ((s.data.toList.take 0).drop 0) (s.data.toList.drop 0) from rfl)
  generalize hrr : runL st0 0 [] s.data.toList = RR at *
  clear hrr
  have HO2 := Lib.hid (Only.refl (fun k => w.heap.size < k) w2)
  go_loopw [6, 7] (fun vf vi wr => ∃ (k f : Nat) (t : St) (vt vp vq vb : Value), vi = .int .i64 k ∧ vf = .int .i64 f ∧ k ≤ s.size ∧ f ≤ k ∧ RR = runL t f ((s.data.toList.take k).drop f) (s.data.toList.drop k) ∧ StB t ∧ 0 ≤ t.lines ∧ t.lines ≤ k ∧ StAt (w.heap.size + 2) wr (w.heap.size + 1) t vt vp vq vb ∧ Only (fun k => w.heap.size < k) w2 wr) (fun _ vi _ => s.size - (intOf vi).toNat)
  case atStart => exact ⟨0, 0, st0, _, _, _, _, rfl, rfl, Nat.zero_le _, Nat.le_refl _, HRUN.out, st0_bd, by decide, by decide, HSA.out, HO2.out⟩
  case round =>
    obtain ⟨k, f, t, vt, vp, vq, vb, rfl, rfl, hk, hf, hrun, hsb, hl0, hl1, hst, hO⟩ := hrel
    have HRUN := Lib.hid hrun
    have HSB := Lib.hid hsb
    have HSTT := Lib.hid hst
    have HOO := Lib.hid hO
    have HZR := Lib.hid (show wr.heap[w.heap.size]? = _ from (hO.block _ (Array.getElem?_eq_some_iff.1 HZ2.out).1 (by omega)).trans HZ2.out)
    have HSZ3 := Lib.hid hO.size
    have hszr : w.heap.size + 1 < wr.heap.size := hst.lt
    clear hrun hsb hst hO
    by_cases hlt : k < s.size
    · have j1 : (k : Int) < s.size := by omega
      have j0 : 0 ≤ (k : Int) := by omega
      have b0 := byteZ_eq s k hlt
      have hlt2 : k < s.data.toList.length := by rw [HSL.out]; exact hlt
      have hbz := byte_at hlt2
      have HLT := Lib.hid hlt
      by_cases hx : s.data.toList[k] = 10
      · have q1 : (byteZ s k != 10) = false := by
          rw [hbz, show (s.data.toList[k]'hlt2) = 10 from hx]; rfl
        have HNL := Lib.hid (runL_nl_cur (t := t) (p := f) (cur := (s.data.toList.take k).drop f) rfl hlt2 hx)
        rw [← HRUN.out] at HNL
        have HEX := Lib.hid (ext_piece s f k)
        have hcl : ((s.data.toList.take k).drop f).length = k - f := by rw [List.length_drop, List.length_take]; omega
        have j3 : (0 : Int) ≤ f := by omega
        have j4 : (f : Int) ≤ k := by omega
        have j5 : (k : Int) ≤ s.size := by omega
        have hse : (s.extract f k).size ≤ 4000 := by rw [ByteArray.size_extract]; omega
        have HCL := Lib.hid (show f + ((s.data.toList.take k).drop f).length + 1 = k + 1 by omega)
        rw [← HEX.out, HCL.out] at HNL
        have HC := Lib.hid (rline_any (w.heap.size + 2) (w.heap.size + 1) t vt vp vq vb (s.extract f k) wr HSTT.out (by have := HSZ3.out; have := HSZ2.out; omega) HSB.out hl0 (by omega) hse)
        have HRLN := Lib.hid (ref_line (t := t) (ref_words_sp (s.extract f k)) (words_ne _) hl0)
        have HBD := Lib.hid (fun h => line_bd (t := t) (ws := wordsB (s.extract f k)) HSB.out h)
        generalize lineZ t (wordsB (s.extract f k)) = q at *
        generalize refLine t (wordsB (s.extract f k)) = rq at *
        clear hx hbz hcl hse
        generalize byteZ s k = y at *
        go_wp2_with fail
        refine HC.out.mono ?_
        rintro e w5 ⟨hO5, hcase⟩
        have HO5 := Lib.hid (HOO.out.trans' hO5 (fun i hi e => by
          rcases e with e | e | e | e | e
          · omega
          · have := ownR_ge HSTT.out.tiers e; omega
          · have := ownR_ge HSTT.out.places e; omega
          · have := ownR_ge HSTT.out.quotas e; omega
          · have := ownR_ge HSTT.out.bars e; omega))
        clear hO5
        rcases hcase with ⟨hz, rfl, vt', vp', vq', vb', hst'⟩ | ⟨hz, rfl⟩
        · have hq := HRLN.out.1 hz
          have HBD2 := Lib.hid (HBD.out (by rw [hq]))
          rw [hq] at HNL HBD2
          have HST' := Lib.hid hst'
          have HNN := Lib.hid (show RR = runL rq.2 (k + 1) [] (s.data.toList.drop (k + 1)) by have := HNL.out; rwa [if_pos rfl] at this)
          clear hst' hz hq HBD HRLN HNL
          go_wp2_with fail
          go_roundw
          case rel =>
            have h1 := HNN.out
            refine ⟨k + 1, k + 1, rq.2, vt', vp', vq', vb', by go_num, by go_num, HLT.out, Nat.le_refl _, ?_, HBD2.out.1, ?_, ?_, HST'.out, HO5.out⟩
            · rw [h1, List.drop_of_length_le (l := List.take (k + 1) s.data.toList) (by rw [List.length_take]; omega)]
            · have := HBD2.out.2; omega
            · have := HBD2.out.2; omega
          case measure => simp [intOf]; have := HLT.out; omega
        · have hq := HRLN.out.2 hz
          have h1 := HNL.out
          rw [if_neg (by rw [hq]; exact hz), hq] at h1
          have HPV := Lib.hid (show parseZ s = (rq.1, f, dr0) by rw [HQ.out, h1]; exact if_neg hz)
          have i3 : (rq.1 != 0) = true := bne_iff_ne.2 hz
          have HZ5 := Lib.hid (show w5.heap[w.heap.size]? = _ from (HO5.out.block _ (Array.getElem?_eq_some_iff.1 HZ2.out).1 (by omega)).trans HZ2.out)
          have hsz5 := HO5.out.size
          clear hz hq h1
          go_wp2_with (first | (refine wpList_store_row rfl 33 _ _ rfl w.heap.size zeroD rfl rfl 33 _ HZ5.out Tryz.infoDr rfl zeroD_one ?_))
          refine bodyPost_ret (results_rparse (setRow_heap _ _ _ _ _ _ HZ5.out) rfl rfl rfl rfl) rfl ?_
          rw [HPV.out]
          exact ⟨_, _, _, _, rfl, dr0_own _ _, (HOT.out.trans' HO5.out (fun i hi e => by omega)).setRow (Nat.le_refl _) _⟩
      · have q1 : (byteZ s k != 10) = true := by
          rw [hbz, bne_iff_ne]
          intro e
          exact hx (UInt8.toNat_inj.1 (by show s.data.toList[k].toNat = 10; omega))
        have HST := Lib.hid (runL_snoc_cur (t := t) (p := f) rfl rfl hlt2 hf hx)
        rw [← HRUN.out] at HST
        clear hx hbz
        generalize byteZ s k = y at *
        go_wp2_with fail
        go_roundw
        case rel => exact ⟨k + 1, f, t, vt, vp, vq, vb, by go_num, rfl, HLT.out, by omega, HST.out, HSB.out, hl0, by omega, HSTT.out, HOO.out⟩
        case measure => simp [intOf]; have := HLT.out; omega
    · obtain rfl : k = s.size := by omega
      have j1 : ¬ (s.size : Int) < s.size := by omega
      have hend : RR = if (s.data.toList.take s.size).drop f = [] ∧ 4 ≤ t.lines then (0, 0, t) else (12, f, t) := by
        have h1 := HRUN.out
        rw [List.drop_of_length_le (l := s.data.toList) (by rw [HSL.out]; omega)] at h1
        exact h1
      have hcl : ((s.data.toList.take s.size).drop f).length = s.size - f := by rw [List.length_drop, List.length_take, HSL.out]; omega
      have hemp : (s.data.toList.take s.size).drop f = [] ↔ f = s.size := by
        rw [← List.length_eq_zero_iff, hcl]; omega
      have k13 : wr.cell? ⟨w.heap.size + 1, 13, none⟩ = some (.int .i64 t.lines) := HSTT.out.cell 13 rfl
      have HE1 := Lib.hid (fun (h1 : f = s.size) (h2 : 4 ≤ t.lines) => show parseZ s = (0, 0, t.d) by
        have e : RR = (0, 0, t) := hend.trans (if_pos ⟨hemp.2 h1, h2⟩)
        rw [HQ.out, e]; rfl)
      have HE2 := Lib.hid (fun (h1 : ¬ (f = s.size ∧ 4 ≤ t.lines)) => show parseZ s = (12, f, dr0) by
        have e : RR = (12, f, t) := hend.trans (if_neg (fun e => h1 ⟨hemp.1 e.1, e.2⟩))
        rw [HQ.out, e]; rfl)
      clear hend hcl hemp HQ HRUN
      by_cases hfs : f = s.size
      · subst hfs
        have i2 : ¬ (s.size : Int) < s.size := by omega
        by_cases h4 : 4 ≤ t.lines
        · have i3 : ¬ t.lines < 4 := by omega
          have HPV := Lib.hid (HE1.out rfl h4)
          obtain ⟨at1, ct, rfl⟩ := slice_of_own HSTT.out.tiers
          obtain ⟨ap1, cp, rfl⟩ := slice_of_own HSTT.out.places
          obtain ⟨aq1, cq, rfl⟩ := slice_of_own HSTT.out.quotas
          obtain ⟨ab1, cb, rfl⟩ := slice_of_own HSTT.out.bars
          have c0 : wr.cell? ⟨w.heap.size + 1, 0, none⟩ = some (Value.string t.d.name) := HSTT.out.cell 0 rfl
          have c1 : wr.cell? ⟨w.heap.size + 1, 1, none⟩ = some (Value.int .i64 t.d.kind) := HSTT.out.cell 1 rfl
          have c2 : wr.cell? ⟨w.heap.size + 1, 2, none⟩ = some (Value.int .i64 t.d.round) := HSTT.out.cell 2 rfl
          have c3 : wr.cell? ⟨w.heap.size + 1, 3, none⟩ = some (Value.int .i64 t.d.price) := HSTT.out.cell 3 rfl
          have c4 : wr.cell? ⟨w.heap.size + 1, 4, none⟩ = some (Value.int .i64 t.d.pool) := HSTT.out.cell 4 rfl
          have c5 : wr.cell? ⟨w.heap.size + 1, 5, none⟩ = some (Value.int .i64 t.d.pick) := HSTT.out.cell 5 rfl
          have c6 : wr.cell? ⟨w.heap.size + 1, 6, none⟩ = some (.slice at1 t.d.tiers.length ct) := HSTT.out.cell 6 rfl
          have c7 : wr.cell? ⟨w.heap.size + 1, 7, none⟩ = some (Value.bool t.d.roll) := HSTT.out.cell 7 rfl
          have c8 : wr.cell? ⟨w.heap.size + 1, 8, none⟩ = some (.slice ap1 t.d.places.length cp) := HSTT.out.cell 8 rfl
          have c9 : wr.cell? ⟨w.heap.size + 1, 9, none⟩ = some (Value.int .i64 t.d.cls) := HSTT.out.cell 9 rfl
          have c10 : wr.cell? ⟨w.heap.size + 1, 10, none⟩ = some (Value.int .i64 t.d.size) := HSTT.out.cell 10 rfl
          have c11 : wr.cell? ⟨w.heap.size + 1, 11, none⟩ = some (.slice aq1 t.d.quotas.length cq) := HSTT.out.cell 11 rfl
          have c12 : wr.cell? ⟨w.heap.size + 1, 12, none⟩ = some (.slice ab1 t.d.barred.length cb) := HSTT.out.cell 12 rfl
          have HD := Lib.hid (show DrOwn (w.heap.size + 2) wr t.d (.slice at1 t.d.tiers.length ct) (.slice ap1 t.d.places.length cp) (.slice aq1 t.d.quotas.length cq) (.slice ab1 t.d.barred.length cb) from ⟨HSTT.out.tiers, HSTT.out.places, HSTT.out.quotas, HSTT.out.bars⟩)
          have HON := Lib.hid (onlyR_row (S := fun k => k = w.heap.size) (Only.refl _ wr) (.inl rfl) #[.string t.d.name, .int .i64 t.d.kind, .int .i64 t.d.round, .int .i64 t.d.price, .int .i64 t.d.pool, .int .i64 t.d.pick, .slice at1 t.d.tiers.length ct, .bool t.d.roll, .slice ap1 t.d.places.length cp, .int .i64 t.d.cls, .int .i64 t.d.size, .slice aq1 t.d.quotas.length cq, .slice ab1 t.d.barred.length cb])
          clear h4 HE1 HE2
          go_wp2_with (first | (refine wpList_store_row rfl 33 _ _ rfl w.heap.size #[.string t.d.name, .int .i64 t.d.kind, .int .i64 t.d.round, .int .i64 t.d.price, .int .i64 t.d.pool, .int .i64 t.d.pick, .slice at1 t.d.tiers.length ct, .bool t.d.roll, .slice ap1 t.d.places.length cp, .int .i64 t.d.cls, .int .i64 t.d.size, .slice aq1 t.d.quotas.length cq, .slice ab1 t.d.barred.length cb] rfl rfl 33 _ HZR.out Tryz.infoDr rfl (by simp [Value.oneCell']) ?_))
          refine bodyPost_ret (results_rparse (setRow_heap _ _ _ _ _ _ HZR.out) rfl rfl rfl rfl) rfl ?_
          rw [HPV.out]
          exact ⟨_, _, _, _, rfl, (HD.out.only HON.out (fun k hk e => by omega)).base (by omega), (HOT.out.trans' HOO.out (fun i hi e => by omega)).trans' HON.out (fun i hi e => by omega)⟩
        · have i3 : t.lines < 4 := by omega
          have HPV := Lib.hid (HE2.out (fun e => h4 e.2))
          clear h4 HE1 HE2
          go_wp2_with (first | (refine wpList_store_row rfl 33 _ _ rfl w.heap.size zeroD rfl rfl 33 _ HZR.out Tryz.infoDr rfl zeroD_one ?_))
          refine bodyPost_ret (results_rparse (setRow_heap _ _ _ _ _ _ HZR.out) rfl rfl rfl rfl) rfl ?_
          rw [HPV.out]
          exact ⟨_, _, _, _, rfl, dr0_own _ _, (HOT.out.trans' HOO.out (fun i hi e => by omega)).setRow (Nat.le_refl _) _⟩
      · have i2 : (f : Int) < s.size := by omega
        have HPV := Lib.hid (HE2.out (fun e => hfs e.1))
        clear hfs HE1 HE2
        go_wp2_with (first | (refine wpList_store_row rfl 33 _ _ rfl w.heap.size zeroD rfl rfl 33 _ HZR.out Tryz.infoDr rfl zeroD_one ?_))
        refine bodyPost_ret (results_rparse (setRow_heap _ _ _ _ _ _ HZR.out) rfl rfl rfl rfl) rfl ?_
        rw [HPV.out]
        exact ⟨_, _, _, _, rfl, dr0_own _ _, (HOT.out.trans' HOO.out (fun i hi e => by omega)).setRow (Nat.le_refl _) _⟩
theorem rparse13_any (s : ByteArray) (w : World) (hs : s.size ≤ 281474976710656) :
    Calls Tryz.prog 43 #[.string s] w fun e w' => ParseRu (parseZ s) w e w' := by
  by_cases h : s.size ≤ 4000
  · exact rparse13_small s w h
  · exact rparse13_big s w h hs
end Go.Proofs.YteikkpiginfbkaaGreatDoor

namespace Go.Proofs.YteikkpiginfbkaaGreatDoor
open Go.RowKit

set_option maxHeartbeats 1000000 in
set_option maxRecDepth 100000 in
theorem rofneg_any (z : Int) (w : World) (hn : z ≤ 0) :
    Calls Tryz.prog 24 #[.int .i64 z] w fun e w' => e = .returned (.string (natB 0)) ∧ Only (fun _ => False) w w' := by
  have HE0 := Lib.hid (show natB (valB (strOfNums [])) = natB 0 from rfl)
  have hcv := run_convert_bytes_nil (P := Tryz.prog) w 93 5 Tryz.underlying93 Tryz.underlying5 0 0 63 Tryz.underlying63
  have i1 : ¬ 0 < z := by omega
  clear hn
  go_enter Tryz.func24, Tryz.ntmps24
  go_wp2_with fail
  go_loop [3, 4] (fun vb vi => vb = .slice none 0 0 ∧ vi = .int .i64 56) (fun _ _ => 0)
  case atStart => exact ⟨rfl, rfl⟩
  case round =>
    obtain ⟨rfl, rfl⟩ := hrel
    go_wp2_with fail
    refine (rcanon_any _ _ (by decide)).mono ?_
    rintro e w' ⟨rfl, rfl⟩
    go_wp2
    go_ret
    exact ⟨by rw [← HE0.out]; rfl, Only.refl _ _⟩
theorem rofall_any (z : Int) (w : World) (h : z ≤ 9223372036854775807) :
    Calls Tryz.prog 24 #[.int .i64 z] w fun e w' => e = .returned (.string (natB z.toNat)) ∧ Only (fun _ => False) w w' := by
  by_cases h0 : z ≤ 0
  · have := rofneg_any z w h0
    rw [show z.toNat = 0 by omega]
    exact this
  · exact (rofI_any z w (by omega) h).mono fun _ _ h => ⟨h.1, Only.ofBelow h.2 _⟩
set_option maxHeartbeats 1000000 in
set_option maxRecDepth 100000 in
theorem rdec13_any (z : Int) (w : World) (h : R64 z) :
    Calls Tryz.prog 68 #[.int .i64 z] w fun e w' => e = .returned (.string (decW z)) ∧ Only (fun _ => False) w w' := by
  have hz : z ≤ 9223372036854775807 := by unfold R64 at h; omega
  have hn : z.toNat < 9223372036854775808 := by omega
  have H1 := Lib.hid (rofall_any z w hz)
  have H2 := Lib.hid (fun w => rtext1_any z.toNat w hn)
  unfold decW
  generalize natB z.toNat = bn at *
  clear hn hz h
  go_enter Tryz.func68, Tryz.ntmps68
  go_wp2_with fail
  refine H1.out.mono ?_
  rintro e w1 ⟨rfl, hO1⟩
  have HO1 := Lib.hid hO1
  clear hO1 H1
  go_wp2_with fail
  refine (H2.out _).mono ?_
  rintro e w2 ⟨rfl, hO2⟩
  have HO2 := Lib.hid (HO1.out.trans hO2)
  clear hO2
  go_wp2
  go_ret
  exact ⟨rfl, HO2.out⟩
end Go.Proofs.YteikkpiginfbkaaGreatDoor
