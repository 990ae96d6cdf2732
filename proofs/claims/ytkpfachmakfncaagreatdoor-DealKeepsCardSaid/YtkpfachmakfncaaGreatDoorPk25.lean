/-
  The listed variables of the library's readers; strconv.Atoi.
-/
import Derived.Test.YtkpfachmakfncaaGreatDoorTxW
import Derived.Test.YtkpfachmakfncaaGreatDoorPk17
import Derived.Test.YtkpfachmakfncaaGreatDoorShelfT
namespace Go.Proofs.YtkpfachmakfncaaGreatDoor
open Go.RowKit

/-- The listed variables, those of the library's readers too. -/
structure GlobT (w : World) : Prop where
  glob : Glob w
  syn : ∃ te pe, w.cell? ⟨0, 0, none⟩ = some (.iface te pe)
  ran : ∃ te pe, w.cell? ⟨1, 0, none⟩ = some (.iface te pe)
  len : ∃ m, w.cell? ⟨4, 0, none⟩ = some (.int .i64 m)
theorem GlobT.only {a b : World} (h : GlobT a) (hO : Only (fun _ => False) a b) : GlobT b := by
  obtain ⟨h1, ⟨t1, p1, h2⟩, ⟨t2, p2, h3⟩, ⟨m, h4⟩⟩ := h
  exact ⟨h1.only hO, ⟨t1, p1, hO.cell h2 id⟩, ⟨t2, p2, hO.cell h3 id⟩, ⟨m, hO.cell h4 id⟩⟩
theorem bytesW_only (w : World) (e : TypeId) (s : ByteArray) : Only (fun _ => False) w (Lib.bytesWorld w e s) :=
  ⟨rfl, rfl, rfl, by rw [Lib.bytesWorld_size]; omega, fun k hk _ => Lib.bytesWorld_at_old w e s k hk⟩
theorem atoi_R64 {l : List UInt8} {v : Int} (h : Lib.atoiAll l = .ok v) : R64 v := by
  cases l with
  | nil => cases h
  | cons c r =>
    unfold Lib.atoiAll at h
    dsimp only at h
    split at h
    · cases h
    · cases h
    · split at h
      · cases h
      · split at h
        · cases h
        · injection h with h
          rw [← h]
          unfold R64
          split <;> omega
def AtR (s : ByteArray) (w w' : World) (e : Ending) : Prop :=
  (∃ v, e = .returned (.tuple #[.int .i64 v, .nilIface]) ∧ Lib.atoiAll s.data.toList = .ok v ∧ Only (fun _ => False) w w') ∨
  (∃ v t p, e = .returned (.tuple #[.int .i64 v, .iface t p]) ∧ (∀ u, Lib.atoiAll s.data.toList ≠ .ok u) ∧ Only (fun _ => False) w w')
theorem atoi_any (s : ByteArray) (w : World) (hs : s.size ≤ 281474976710656) (hG : GlobT w) : Calls Tryz.prog 28 #[.string s] w fun e w' => AtR s w w' e := by
  obtain ⟨_, ⟨t1, p1, h2⟩, ⟨t2, p2, h3⟩, _⟩ := hG
  cases h : Lib.atoiAll s.data.toList with
  | ok v =>
    refine (Tryz.strconv_Atoi_ok s (by omega) v h w).mono fun e w' hw => .inl ⟨v, hw.1, h, ?_⟩
    rcases hw.2 with hw | ⟨t, hw⟩
    · rw [hw]; exact Only.refl _ _
    · rw [hw]; exact bytesW_only _ _ _
  | «syntax» =>
    refine (Tryz.strconv_Atoi_syntax s hs h _ w h2 (.inr ⟨_, _, rfl⟩)).mono fun e w' hw => ?_
    obtain ⟨N, he, _, _, hb⟩ := hw
    exact .inr ⟨_, _, _, he, (fun u hu => by rw [h] at hu; cases hu), Only.ofBelow hb _⟩
  | range =>
    refine (Tryz.strconv_Atoi_range s hs h _ w h3 (.inr ⟨_, _, rfl⟩)).mono fun e w' hw => ?_
    obtain ⟨N, he, _, _, hb⟩ := hw
    exact .inr ⟨_, _, _, he, (fun u hu => by rw [h] at hu; cases hu), Only.ofBelow hb _⟩
end Go.Proofs.YtkpfachmakfncaaGreatDoor
