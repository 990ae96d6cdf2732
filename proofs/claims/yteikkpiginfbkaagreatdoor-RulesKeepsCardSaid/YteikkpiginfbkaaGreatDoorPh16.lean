/-
  Rules: the program's need, name, number, small.
  Rules: the program's fits, head, special.
-/
import Derived.Test.YteikkpiginfbkaaGreatDoorPh15
namespace Go.Proofs.YteikkpiginfbkaaGreatDoor
open Go.RowKit

/-- The panic that ends reading. -/
def faultC (pos err : Int) : List PanicEntry := [{ v := .iface 80 (.agg #[.int .i64 pos, .int .i64 err]), recovered := false }]
set_option maxHeartbeats 1000000 in
theorem need_ok (B : Nat) (err : Int) (w : World) :
    Calls Tryz.prog 57 #[.pointer (some ⟨B, 0, none⟩), .bool true, .int .i64 err] w fun e w' => e = .returned (.tuple #[]) ∧ w = w' := by
  go_enter Tryz.func57, Tryz.ntmps57
  go_wp2
  go_end0
  exact ⟨rfl, rfl⟩
set_option maxHeartbeats 1000000 in
theorem need_no (B : Nat) (pos err : Int) (w : World) (hc : w.cell? ⟨B, 13, none⟩ = some (.int .i64 pos)) :
    Calls Tryz.prog 57 #[.pointer (some ⟨B, 0, none⟩), .bool false, .int .i64 err] w fun e w' => e = .panicked (faultC pos err) ∧ w = w' := by
  go_enter Tryz.func57, Tryz.ntmps57
  go_wp2
  exact ⟨rfl, rfl, rfl⟩
/-- A part of a line, as it lies in memory. -/
def partV (w : ByteArray) : Value := if numB w = true then .iface 3 (.int .i64 (amtV w)) else .iface 9 (.string w)
theorem partV_num {w : ByteArray} (h : numB w = true) : partV w = .iface 3 (.int .i64 (amtV w)) := if_pos h
theorem partV_str {w : ByteArray} (h : numB w = false) : partV w = .iface 9 (.string w) := if_neg (by rw [h]; decide)
def PrtAt (W : World) (sv : Value) (ws : List ByteArray) : Prop :=
  ∃ b off cap, sv = .slice (some ⟨b, off, none⟩) ws.length cap ∧ b < W.heap.size ∧ ws.length ≤ cap ∧ cap ≤ 9223372036854775807 ∧ ∀ j, j < ws.length → W.cell? ⟨b, off + j, none⟩ = some (partV (wAt ws j))
theorem PrtAt.only {S : Nat → Prop} {A B : World} (h : Only S A B) {sv : Value} {ws : List ByteArray} (hs : ∀ a n c, sv = .slice (some a) n c → ¬ S a.block) : PrtAt A sv ws → PrtAt B sv ws
  | ⟨b, off, cap, e, hb, h1, h2, hc⟩ => ⟨b, off, cap, e, Nat.lt_of_lt_of_le hb h.size, h1, h2, fun j hj => h.cell (hc j hj) (show ¬ S b from hs ⟨b, off, none⟩ _ _ e)⟩
theorem PrtAt.still {A B : World} (h : Only (fun _ => False) A B) {sv : Value} {ws : List ByteArray} (hp : PrtAt A sv ws) : PrtAt B sv ws := hp.only h (fun _ _ _ _ h => h)
def nameV (ws : List ByteArray) (i : Nat) : ByteArray := if numB (wAt ws i) = true then ByteArray.empty else wAt ws i
def numV (ws : List ByteArray) (i : Nat) : Int := if numB (wAt ws i) = true then amtV (wAt ws i) else 0
theorem ta_int_int (v : Int) (w : World) : (Instr.typeAssert (.iface 3 (.int .i64 v)) 20 3 true).run Tryz.prog w = .ok (.tuple #[.int .i64 v, .bool true]) w := by kernel_rfl
theorem ta_str_int (v : ByteArray) (w : World) : (Instr.typeAssert (.iface 9 (.string v)) 20 3 true).run Tryz.prog w = .ok (.tuple #[.int .i64 0, .bool false]) w := by kernel_rfl
theorem ta_int_str (v : Int) (w : World) : (Instr.typeAssert (.iface 3 (.int .i64 v)) 20 9 true).run Tryz.prog w = .ok (.tuple #[.string ⟨#[]⟩, .bool false]) w := by kernel_rfl
theorem ta_str_str (v : ByteArray) (w : World) : (Instr.typeAssert (.iface 9 (.string v)) 20 9 true).run Tryz.prog w = .ok (.tuple #[.string v, .bool true]) w := by kernel_rfl
set_option maxHeartbeats 1000000 in
theorem name_any (sv : Value) (ws : List ByteArray) (i : Nat) (v : ByteArray) (w : World) (hp : PrtAt w sv ws) (hi : i < ws.length) (hv : nameV ws i = v) :
    Calls Tryz.prog 67 #[sv, .int .i64 i] w fun e w' => e = .returned (.string v) ∧ w = w' := by
  obtain ⟨b, off, cap, rfl, hb, h1, h2, hc⟩ := hp
  have f0 := hc i hi
  have i1 : (i : Int) < ws.length := by omega
  have i2 : 0 ≤ (i : Int) := by omega
  unfold nameV at hv
  clear hc
  cases hn : numB (wAt ws i)
  · rw [partV_str hn] at f0
    rw [hn] at hv
    obtain rfl : wAt ws i = v := hv
    have ta := ta_str_str (wAt ws i)
    clear hn
    generalize ws.length = n at *
    go_enter Tryz.func67, Tryz.ntmps67
    go_wp2
    go_ret
    exact ⟨rfl, rfl⟩
  · rw [partV_num hn] at f0
    rw [hn] at hv
    obtain rfl : ByteArray.empty = v := hv
    have ta := ta_int_str (amtV (wAt ws i))
    clear hn
    generalize ws.length = n at *
    go_enter Tryz.func67, Tryz.ntmps67
    go_wp2
    go_ret
    exact ⟨rfl, rfl⟩
set_option maxHeartbeats 1000000 in
theorem number_any (sv : Value) (ws : List ByteArray) (i : Nat) (v : Int) (w : World) (hp : PrtAt w sv ws) (hi : i < ws.length) (hv : numV ws i = v) :
    Calls Tryz.prog 119 #[sv, .int .i64 i] w fun e w' => e = .returned (.int .i64 v) ∧ w = w' := by
  obtain ⟨b, off, cap, rfl, hb, h1, h2, hc⟩ := hp
  have f0 := hc i hi
  have i1 : (i : Int) < ws.length := by omega
  have i2 : 0 ≤ (i : Int) := by omega
  unfold numV at hv
  clear hc
  cases hn : numB (wAt ws i)
  · rw [partV_str hn] at f0
    rw [hn] at hv
    obtain rfl : 0 = v := hv
    have ta := ta_str_int (wAt ws i)
    clear hn
    generalize ws.length = n at *
    go_enter Tryz.func119, Tryz.ntmps119
    go_wp2
    go_ret
    exact ⟨rfl, rfl⟩
  · rw [partV_num hn] at f0
    rw [hn] at hv
    obtain rfl : amtV (wAt ws i) = v := hv
    have ta := ta_int_int (amtV (wAt ws i))
    clear hn
    generalize ws.length = n at *
    go_enter Tryz.func119, Tryz.ntmps119
    go_wp2
    go_ret
    exact ⟨rfl, rfl⟩
theorem small_step {ws : List ByteArray} {k : Nat} (hk : k < ws.length) : smallB (ws.take (k + 1)) = (smallB (ws.take k) && decide (numV ws k ≤ 1000000000)) := by
  unfold smallB
  rw [List.take_succ_eq_append_getElem hk, List.all_append]
  have e : ws[k] = wAt ws k := by unfold wAt; simp [List.getD, hk]
  congr 1
  simp only [List.all_cons, List.all_nil, Bool.and_true, e]
  unfold numV
  cases numB (wAt ws k) <;> simp
theorem small_no {ws : List ByteArray} {k : Nat} (h : smallB (ws.take k) = false) : smallB ws = false := by
  unfold smallB at *
  rw [← List.take_append_drop k ws, List.all_append, h]; rfl
/-- What small leaves: nothing, or the panic. -/
def SmallR (pos : Int) (b : Bool) (w : World) (e : Ending) (w' : World) : Prop := (e = if b = true then .returned (.tuple #[]) else .panicked (faultC pos 3)) ∧ w = w'
set_option maxHeartbeats 2000000 in
theorem small_any (B : Nat) (pos : Int) (sv : Value) (ws : List ByteArray) (w : World) (hp : PrtAt w sv ws) (hc : w.cell? ⟨B, 13, none⟩ = some (.int .i64 pos)) :
    Calls Tryz.prog 122 #[.pointer (some ⟨B, 0, none⟩), sv] w fun e w' => SmallR pos (smallB ws) w e w' := by
  have HP := Lib.hid hp
  have HC := Lib.hid hc
  obtain ⟨b, off, cap, rfl, hb, h1, h2, _⟩ := hp
  have hl : ws.length ≤ 9223372036854775807 := by omega
  clear hb h1 h2 hc
  go_enter Tryz.func122, Tryz.ntmps122
  go_wp2
  go_loop [7] (fun i => ∃ k : Nat, i = .int .i64 k ∧ k ≤ ws.length ∧ smallB (ws.take k) = true) (fun i => ws.length - (intOf i).toNat)
  case atStart => exact ⟨0, rfl, Nat.zero_le _, rfl⟩
  case round =>
    obtain ⟨k, rfl, hk, hs⟩ := hrel
    have HS := Lib.hid hs
    clear hs
    by_cases hlt : k < ws.length
    · have j1 : (k : Int) < ws.length := by omega
      have j2 : 0 ≤ (k : Int) := by omega
      have HST := Lib.hid (small_step hlt)
      obtain ⟨v, hv⟩ : ∃ v, numV ws k = v := ⟨_, rfl⟩
      have HN := Lib.hid (number_any _ ws k v w HP.out hlt hv)
      rw [hv] at HST
      clear hv
      by_cases hle : v ≤ 1000000000
      · have hd : decide (v ≤ 1000000000) = true := by simpa using hle
        have HG := Lib.hid (show smallB (ws.take (k + 1)) = true by rw [HST.out, HS.out, hd]; rfl)
        go_wp2_with fail
        refine HN.out.mono ?_
        rintro e w' ⟨rfl, rfl⟩
        go_wp2_with fail
        refine (need_ok B 3 w).mono ?_
        rintro e w' ⟨rfl, rfl⟩
        go_wp2_with fail
        go_round
        case rel => exact ⟨k + 1, by go_num, hlt, HG.out⟩
        case measure => simp [intOf]; omega
      · have hd : decide (v ≤ 1000000000) = false := by simpa using hle
        have HG := Lib.hid (small_no (k := k + 1) (show smallB (ws.take (k + 1)) = false by rw [HST.out, HS.out, hd]; rfl))
        go_wp2_with fail
        refine HN.out.mono ?_
        rintro e w' ⟨rfl, rfl⟩
        go_wp2_with fail
        refine (need_no B pos 3 w HC.out).mono ?_
        rintro e w' ⟨rfl, rfl⟩
        go_wp2_with fail
        exact ⟨rfl, by rw [HG.out]; rfl, rfl⟩
    · obtain rfl : k = ws.length := by omega
      have j1 : ¬ (ws.length : Int) < ws.length := by omega
      have HG := Lib.hid (show smallB ws = true by have := HS.out; rwa [List.take_length] at this)
      go_wp2_with fail
      go_end0
      exact ⟨by rw [HG.out]; rfl, rfl⟩
end Go.Proofs.YteikkpiginfbkaaGreatDoor

namespace Go.Proofs.YteikkpiginfbkaaGreatDoor
open Go.RowKit

def formS (f : List Bool) : ByteArray := ⟨(f.map fun (b : Bool) => if b = true then (97 : UInt8) else 48).toArray⟩
theorem formS_size (f : List Bool) : (formS f).size = f.length := by simp [formS, ByteArray.size]
theorem formS_at (f : List Bool) (k : Nat) (h : k < f.length) : byteZ (formS f) k = if f.getD k true = true then 97 else 48 := by
  unfold byteZ formS
  simp only [List.getD, List.getElem?_map, List.getElem?_eq_getElem h, Option.map_some, Option.getD_some]
  cases f[k] <;> rfl
def ftOk (f : List Bool) (ws : List ByteArray) (k : Nat) : Bool := if f.getD k true = true then nameB (wAt ws k) else numB (wAt ws k)
theorem fit_len : ∀ {f : List Bool} {ws : List ByteArray}, f.length ≠ ws.length → fitB f ws = false
  | [], [], h => absurd rfl h
  | [], _ :: _, _ => rfl
  | _ :: _, [], _ => rfl
  | a :: f, w :: ws, h => by
    unfold fitB
    rw [fit_len (f := f) (ws := ws) (fun e => h (by simp [e]))]
    simp
theorem range_all_cons (p : Nat → Bool) (n : Nat) : (List.range (n + 1)).all p = (p 0 && (List.range n).all (fun k => p (k + 1))) := by
  rw [List.range_succ_eq_map, List.all_cons, List.all_map]; rfl
theorem fit_all : ∀ {f : List Bool} {ws : List ByteArray}, f.length = ws.length → fitB f ws = (List.range ws.length).all (ftOk f ws)
  | [], [], _ => rfl
  | [], _ :: _, h => by simp at h
  | _ :: _, [], h => by simp at h
  | a :: f, w :: ws, h => by
    rw [List.length_cons, range_all_cons, fitB, fit_all (f := f) (ws := ws) (by simpa using h)]
    rfl
theorem num_not_name {s : ByteArray} (h : numB s = true) : nameB s = false := by
  rw [Bool.eq_false_iff]
  intro e
  unfold nameB at e
  unfold numB at h
  simp only [Bool.and_eq_true, decide_eq_true_eq, List.all_eq_true, List.mem_range] at e h
  have h1 := e.2 0 (by omega)
  have h2 := h.2 0 (by omega)
  simp [nmOk, nmOkZ, dgOk] at h1 h2
  omega
set_option maxHeartbeats 4000000 in
theorem fits_any (sv : Value) (ws : List ByteArray) (f : List Bool) (bb : Bool) (w : World) (hp : PrtAt w sv ws) (hb : fitB f ws = bb) :
    Calls Tryz.prog 121 #[sv, .string (formS f)] w fun e w' => e = .returned (.bool bb) ∧ w = w' := by
  obtain ⟨b, off, cap, rfl, hbl, h1, h2, hc⟩ := hp
  have hsz := formS_size f
  have HA := Lib.hid (formS_at f)
  have HC := Lib.hid hc
  clear hc
  by_cases hl : f.length = ws.length
  · rw [fit_all hl] at hb
    have HB := Lib.hid hb
    rw [hl] at hsz HA
    have i1 : ((ws.length : Int) != (formS f).size) = false := by simp [hsz]
    have HL := Lib.hid hl
    have HS := Lib.hid hsz
    clear hb hl hsz
    go_enter Tryz.func121, Tryz.ntmps121
    go_wp2_with fail
    clear i1
    go_loop [16] (fun i => ∃ k : Nat, i = .int .i64 k ∧ k ≤ ws.length ∧ (List.range k).all (ftOk f ws) = true) (fun i => ws.length - (intOf i).toNat)
    case atStart => exact ⟨0, rfl, Nat.zero_le _, rfl⟩
    case round =>
      obtain ⟨k, rfl, hk, hall⟩ := hrel
      have HALL := Lib.hid hall
      clear hall
      by_cases hlt : k < ws.length
      · have j1 : (k : Int) < ws.length := by omega
        have j2 : 0 ≤ (k : Int) := by omega
        have f0 := HC.out k hlt
        have j3 : (k : Int) < (formS f).size := by have := HS.out; omega
        have hy := (byteZ_eq (formS f) k (by have := HS.out; omega)).trans (HA.out k hlt)
        have HF := Lib.hid (fun (h : ftOk f ws k = false) => show bb = false by rw [← HB.out]; exact all_range_no hlt h)
        have HT := Lib.hid (fun (h : ftOk f ws k = true) => all_range_succ HALL.out h)
        have HO := Lib.hid (show ftOk f ws k = if f.getD k true = true then nameB (wAt ws k) else numB (wAt ws k) from rfl)
        generalize f.getD k true = a at *
        generalize wAt ws k = x at *
        cases hn : numB x
        · rw [partV_str hn] at f0
          have ta := ta_str_int x
          have tb := ta_str_str x
          cases a
          · obtain rfl := HF.out (by rw [HO.out, hn]; rfl)
            have hy2 : _ = (48 : Int) := hy
            clear hn hy
            go_wp2_with fail
            go_ret
            exact ⟨rfl, rfl⟩
          · have hy2 : _ = (97 : Int) := hy
            clear hn hy
            cases hm : nameB x
            · obtain rfl := HF.out (by rw [HO.out, hm]; rfl)
              have HM := Lib.hid (isname_any x false w hm)
              clear hm
              go_wp2_with fail
              refine HM.out.mono ?_
              rintro e w' ⟨rfl, rfl⟩
              go_wp2_with fail
              go_ret
              exact ⟨rfl, rfl⟩
            · have HG := Lib.hid (HT.out (by rw [HO.out, hm]; rfl))
              have HM := Lib.hid (isname_any x true w hm)
              clear hm
              go_wp2_with fail
              refine HM.out.mono ?_
              rintro e w' ⟨rfl, rfl⟩
              go_wp2_with fail
              go_round
              case rel => exact ⟨k + 1, by go_num, hlt, HG.out⟩
              case measure => simp [intOf]; omega
        · rw [partV_num hn] at f0
          have ta := ta_int_int (amtV x)
          cases a
          · have HG := Lib.hid (HT.out (by rw [HO.out, hn]; rfl))
            have hy2 : _ = (48 : Int) := hy
            clear hn hy
            go_wp2_with fail
            go_round
            case rel => exact ⟨k + 1, by go_num, hlt, HG.out⟩
            case measure => simp [intOf]; omega
          · obtain rfl := HF.out (by rw [HO.out, num_not_name hn]; rfl)
            have hy2 : _ = (97 : Int) := hy
            clear hn hy
            go_wp2_with fail
            go_ret
            exact ⟨rfl, rfl⟩
      · obtain rfl : k = ws.length := by omega
        obtain rfl : true = bb := HALL.out.symm.trans HB.out
        have j1 : ¬ (ws.length : Int) < ws.length := by omega
        go_wp2_with fail
        go_ret
        exact ⟨rfl, rfl⟩
  · rw [fit_len hl] at hb
    subst hb
    have i1 : ((ws.length : Int) != (formS f).size) = true := by simp [hsz]; omega
    have HL := Lib.hid hl
    clear hl hsz
    go_enter Tryz.func121, Tryz.ntmps121
    go_wp2_with fail
    go_ret
    exact ⟨rfl, rfl⟩
/-- What a check leaves: nothing, or the panic. -/
def EndR (pos err : Int) (w : World) (e : Ending) (w' : World) : Prop := (e = if err = 0 then .returned (.tuple #[]) else .panicked (faultC pos err)) ∧ w = w'
theorem head_z {t : St} {line : Int} {f : List Bool} {ws : List ByteArray} (h1 : t.lines = line) (h2 : fitB f ws = true) : headZ t line f ws = if smallB ws = true then 0 else 3 := by
  unfold headZ; rw [if_pos ⟨h1, h2⟩]
theorem head_n {t : St} {line : Int} {f : List Bool} {ws : List ByteArray} (h : ¬ (t.lines = line ∧ fitB f ws = true)) : headZ t line f ws = 12 := by
  unfold headZ; rw [if_neg h]
set_option maxHeartbeats 2000000 in
theorem head_any (B : Nat) (pos line err : Int) (t : St) (sv : Value) (ws : List ByteArray) (f : List Bool) (w : World) (hp : PrtAt w sv ws) (c13 : w.cell? ⟨B, 13, none⟩ = some (.int .i64 pos)) (c14 : w.cell? ⟨B, 14, none⟩ = some (.int .i64 t.lines))
    (he : headZ t line f ws = err) :
    Calls Tryz.prog 118 #[.pointer (some ⟨B, 0, none⟩), .int .i64 line, sv, .string (formS f)] w fun e w' => EndR pos err w e w' := by
  have HP := Lib.hid hp
  have HC := Lib.hid c13
  by_cases hl : t.lines = line
  · have i1 : (t.lines == line) = true := by simpa using hl
    cases hfit : fitB f ws
    · rw [head_n (by rw [hfit]; simp)] at he
      subst he
      have HF := Lib.hid (fits_any sv ws f false w hp hfit)
      generalize t.lines = n at *
      clear hp hfit c13 hl
      go_enter Tryz.func118, Tryz.ntmps118
      go_wp2_with fail
      refine HF.out.mono ?_
      rintro e w' ⟨rfl, rfl⟩
      go_wp2_with fail
      refine (need_no B pos 12 w HC.out).mono ?_
      rintro e w' ⟨rfl, rfl⟩
      go_wp2_with fail
      exact ⟨rfl, rfl, rfl⟩
    · rw [head_z hl hfit] at he
      have HF := Lib.hid (fits_any sv ws f true w hp hfit)
      have HE := Lib.hid he
      have HS := Lib.hid (small_any B pos sv ws w hp c13)
      generalize t.lines = n at *
      clear hp hfit c13 hl he
      go_enter Tryz.func118, Tryz.ntmps118
      go_wp2_with fail
      refine HF.out.mono ?_
      rintro e w' ⟨rfl, rfl⟩
      go_wp2_with fail
      refine (need_ok B 12 w).mono ?_
      rintro e w' ⟨rfl, rfl⟩
      go_wp2_with fail
      refine HS.out.mono ?_
      rintro e w' ⟨he, rfl⟩
      cases hb : smallB ws
      · rw [hb] at he
        have he2 := HE.out
        rw [hb] at he2
        obtain rfl : 3 = err := he2
        obtain rfl : e = .panicked (faultC pos 3) := he
        clear hb
        go_wp2_with fail
        exact ⟨rfl, rfl, rfl⟩
      · rw [hb] at he
        have he2 := HE.out
        rw [hb] at he2
        obtain rfl : 0 = err := he2
        obtain rfl : e = .returned (.tuple #[]) := he
        clear hb
        go_wp2_with fail
        go_end0
        exact ⟨rfl, rfl⟩
  · rw [head_n (fun h => hl h.1)] at he
    subst he
    have i1 : (t.lines == line) = false := by simpa using hl
    generalize t.lines = n at *
    clear hp c13 hl
    go_enter Tryz.func118, Tryz.ntmps118
    go_wp2_with fail
    refine (need_no B pos 12 w HC.out).mono ?_
    rintro e w' ⟨rfl, rfl⟩
    go_wp2_with fail
    exact ⟨rfl, rfl, rfl⟩
theorem spec_z {t : St} {kind : Int} {f : List Bool} {ws : List ByteArray} (h1 : 4 ≤ t.lines) (h2 : fitB f ws = true) (h3 : t.barred = false) :
    specZ t kind f ws = if t.d.kind = kind then (if t.rolled = false then (if smallB ws = true then 0 else 3) else 12) else 14 := by
  unfold specZ; rw [if_pos ⟨h1, h2, h3⟩]
theorem spec_n {t : St} {kind : Int} {f : List Bool} {ws : List ByteArray} (h : ¬ (4 ≤ t.lines ∧ fitB f ws = true ∧ t.barred = false)) : specZ t kind f ws = 12 := by
  unfold specZ; rw [if_neg h]
set_option maxHeartbeats 2000000 in
theorem special_any (B : Nat) (pos kind err : Int) (t : St) (sv : Value) (ws : List ByteArray) (f : List Bool) (w : World) (hp : PrtAt w sv ws) (c1 : w.cell? ⟨B, 1, none⟩ = some (.int .i64 t.d.kind)) (c13 : w.cell? ⟨B, 13, none⟩ = some (.int .i64 pos))
    (c14 : w.cell? ⟨B, 14, none⟩ = some (.int .i64 t.lines)) (c15 : w.cell? ⟨B, 15, none⟩ = some (.bool t.rolled)) (c16 : w.cell? ⟨B, 16, none⟩ = some (.bool t.barred)) (he : specZ t kind f ws = err) :
    Calls Tryz.prog 120 #[.pointer (some ⟨B, 0, none⟩), .int .i64 kind, sv, .string (formS f)] w fun e w' => EndR pos err w e w' := by
  have HP := Lib.hid hp
  have HC := Lib.hid c13
  by_cases hl : 4 ≤ t.lines
  · cases hfit : fitB f ws
    · rw [spec_n (by rw [hfit]; simp)] at he
      subst he
      have HF := Lib.hid (fits_any sv ws f false w hp hfit)
      generalize t.lines = n at *
      clear hp hfit c13 c1 c15
      go_enter Tryz.func120, Tryz.ntmps120
      go_wp2_with fail
      refine HF.out.mono ?_
      rintro e w' ⟨rfl, rfl⟩
      go_wp2_with fail
      refine (need_no B pos 12 w HC.out).mono ?_
      rintro e w' ⟨rfl, rfl⟩
      go_wp2_with fail
      exact ⟨rfl, rfl, rfl⟩
    · have HF := Lib.hid (fits_any sv ws f true w hp hfit)
      cases hbr : t.barred
      · rw [spec_z hl hfit hbr] at he
        rw [hbr] at c16
        have HS := Lib.hid (small_any B pos sv ws w hp c13)
        have HE := Lib.hid he
        generalize t.lines = n at *
        clear hp hfit c13 he hbr
        by_cases hk : t.d.kind = kind
        · have HK := Lib.hid hk
          have i1 : (t.d.kind == kind) = true := by simpa using hk
          clear hk
          cases hr : t.rolled
          · rw [hr] at c15
            have HR := Lib.hid hr
            clear hr
            generalize t.d.kind = kd at *
            go_enter Tryz.func120, Tryz.ntmps120
            go_wp2_with fail
            refine HF.out.mono ?_
            rintro e w' ⟨rfl, rfl⟩
            go_wp2_with fail
            refine (need_ok B 12 w).mono ?_
            rintro e w' ⟨rfl, rfl⟩
            go_wp2_with fail
            refine (need_ok B 14 w).mono ?_
            rintro e w' ⟨rfl, rfl⟩
            go_wp2_with fail
            refine (need_ok B 12 w).mono ?_
            rintro e w' ⟨rfl, rfl⟩
            go_wp2_with fail
            refine HS.out.mono ?_
            rintro e w' ⟨he, rfl⟩
            have he2 := HE.out
            rw [if_pos HK.out, if_pos HR.out] at he2
            cases hb : smallB ws
            · rw [hb] at he he2
              obtain rfl : 3 = err := he2
              obtain rfl : e = .panicked (faultC pos 3) := he
              clear hb
              go_wp2_with fail
              exact ⟨rfl, rfl, rfl⟩
            · rw [hb] at he he2
              obtain rfl : 0 = err := he2
              obtain rfl : e = .returned (.tuple #[]) := he
              clear hb
              go_wp2_with fail
              go_end0
              exact ⟨rfl, rfl⟩
          · rw [hr] at c15
            have he2 := HE.out
            rw [if_pos HK.out, if_neg (by rw [hr]; decide)] at he2
            subst he2
            clear hr
            generalize t.d.kind = kd at *
            go_enter Tryz.func120, Tryz.ntmps120
            go_wp2_with fail
            refine HF.out.mono ?_
            rintro e w' ⟨rfl, rfl⟩
            go_wp2_with fail
            refine (need_ok B 12 w).mono ?_
            rintro e w' ⟨rfl, rfl⟩
            go_wp2_with fail
            refine (need_ok B 14 w).mono ?_
            rintro e w' ⟨rfl, rfl⟩
            go_wp2_with fail
            refine (need_no B pos 12 w HC.out).mono ?_
            rintro e w' ⟨rfl, rfl⟩
            go_wp2_with fail
            exact ⟨rfl, rfl, rfl⟩
        · have i1 : (t.d.kind == kind) = false := by simpa using hk
          have he2 := HE.out
          rw [if_neg hk] at he2
          subst he2
          clear hk
          generalize t.d.kind = kd at *
          go_enter Tryz.func120, Tryz.ntmps120
          go_wp2_with fail
          refine HF.out.mono ?_
          rintro e w' ⟨rfl, rfl⟩
          go_wp2_with fail
          refine (need_ok B 12 w).mono ?_
          rintro e w' ⟨rfl, rfl⟩
          go_wp2_with fail
          refine (need_no B pos 14 w HC.out).mono ?_
          rintro e w' ⟨rfl, rfl⟩
          go_wp2_with fail
          exact ⟨rfl, rfl, rfl⟩
      · rw [spec_n (by rw [hbr]; simp)] at he
        subst he
        rw [hbr] at c16
        generalize t.lines = n at *
        clear hp hfit c13 c1 c15 hbr
        go_enter Tryz.func120, Tryz.ntmps120
        go_wp2_with fail
        refine HF.out.mono ?_
        rintro e w' ⟨rfl, rfl⟩
        go_wp2_with fail
        refine (need_no B pos 12 w HC.out).mono ?_
        rintro e w' ⟨rfl, rfl⟩
        go_wp2_with fail
        exact ⟨rfl, rfl, rfl⟩
  · rw [spec_n (fun h => hl h.1)] at he
    subst he
    generalize t.lines = n at *
    clear hp c13 c1 c15
    go_enter Tryz.func120, Tryz.ntmps120
    go_wp2_with fail
    refine (need_no B pos 12 w HC.out).mono ?_
    rintro e w' ⟨rfl, rfl⟩
    go_wp2_with fail
    exact ⟨rfl, rfl, rfl⟩
end Go.Proofs.YteikkpiginfbkaaGreatDoor
