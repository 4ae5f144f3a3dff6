/- What the library's functions answer, as the walk of ReadNumbers takes it. -/
import Derived.Test.YtpfjcfhgckpjmaaGreatDoorHb
import Derived.Test.YtpfjcfhgckpjmaaGreatDoorPx
import Derived.Test.YtpfjcfhgckpjmaaGreatDoorFt
import Derived.Stop.LaidErr
namespace Go.Proofs.YtpfjcfhgckpjmaaGreatDoor.Hs
open Go.Fl Go.RowKit Ieee Go.Proofs.YtpfjcfhgckpjmaaGreatDoorW.PrintWords
/-- The library's ErrSyntax holds an error that is not nil. -/
def E1 (w : World) : Prop := ∃ te pe, w.cell? ⟨2, 0, none⟩ = some (.iface te pe)
theorem E1.below {w w' : World} (h : E1 w) (hb : Below w.heap.size w w') : E1 w' := by
  obtain ⟨t, p, h⟩ := h
  exact ⟨t, p, by rw [hb.cell (World.block_lt_of_cell? w _ h)]; exact h⟩
/-- The library's bytealg.MaxLen holds some number. -/
def SP (w : World) : Prop := ∃ m, w.cell? ⟨4, 0, none⟩ = some (.int .i64 m)
theorem SP.below {w w' : World} (h : SP w) (hb : Below w.heap.size w w') : SP w' := by
  obtain ⟨m, h⟩ := h
  exact ⟨m, by rw [hb.cell (World.block_lt_of_cell? w _ h)]; exact h⟩
def HS (w : World) : Prop := Hb.HT w ∧ E1 w ∧ SP w
theorem HS.below {w w' : World} (h : HS w) (hb : Below w.heap.size w w') : HS w' := ⟨h.1.below hb, h.2.1.below hb, h.2.2.below hb⟩
theorem sp_of_shaped {w : World} (h : w.ShapedOpen Tryz.prog) : SP w :=
  Go.Proofs.cell_of_shapedOpen_int (zero := #[.int .i64 0]) (t := 3) h (of_decide_eq_true (by kernel_rfl)) (by kernel_rfl) rfl (by kernel_rfl) (by kernel_rfl) Tryz.underlying3
theorem splitStr (s sep : ByteArray) (hs : s.size < 4294967281) (h1 : 1 ≤ sep.size) (w : World) (hp : SP w) :
    Calls Tryz.prog 76 #[.string s, .string sep] w fun e w' => ∃ v0_ : Value, e = .returned (v0_) ∧ Kd.R Kd.string 9 w' w.heap.size (fun _ => True) v0_ (Lib.splitB sep 0 (Lib.countB s sep) s) ∧ Below w.heap.size w w' := by
  obtain ⟨m, hm⟩ := hp
  refine (Tryz.strings_Split s sep m w hs hm h1).mono fun e w' ⟨he, hw⟩ => ⟨_, he, ?_, ?_⟩
  · have hl := Lib.splitB_all sep h1 0 _ s rfl
    have hb := Lib.countB_le sep h1 _ s (Nat.le_refl _)
    rw [hw, ← hl]
    refine Kd.R_of_own (own_lit_of (enc := Value.string) w w.heap.size 9 _ (Nat.le_refl _) (by omega)) (fun _ _ => trivial)
  · rw [hw]; exact below_alloc (Below.refl _ _) _
theorem readHex (s : ByteArray) (hs : s.size = 8) (w : World) (h1 : E1 w) :
    Calls Tryz.prog 51 #[.string s] w fun e w' => e = .returned (.float .f32 ((((Px.parseH 0 s.data.toList).getD 0 % 4294967296 : Nat)) : Int).toNat) ∧ Below w.heap.size w w' := by
  have hI := Px.parse39 s (by omega) (by omega) w h1
  generalize (Px.parseH 0 s.data.toList).getD 0 = n at *
  have hw : IntKind.u32.wrap (n : Int) = ((n % 4294967296 : Nat) : Int) := by simp [IntKind.wrap, IntKind.bits, IntKind.signed]
  have hc := fun n w => from40 n w
  go_enter Tryz.func51, Tryz.ntmps51
  go_wp2_with (go_at_call 77; refine hI.mono ?_; rintro e w' ⟨⟨v, rfl⟩, hb⟩)
  go_ret
  exact ⟨rfl, hb⟩
/-- A whole number as a single's bits. -/
def mk (x : Int) : Int := ((Go.floatOfInt .f32 x : Nat) : Int)
def okI (x : Int) : Bool := !FloatKind.f32.format.nan (Go.floatOfInt .f32 x)
theorem mkself {x : Int} (h : okI x = true) : (FloatKind.f32.format.order (Go.floatOfInt .f32 x) (Go.floatOfInt .f32 x) != some .eq) = false := by
  rw [neq_self]
  unfold okI at h
  simpa using h
theorem cellmk {w : World} {ad : Addr} {l : List Int} {i x : Int} (h : w.cell? ad = some (.float .f32 (rd l i).toNat)) (e : rd l i = mk x) : w.cell? ad = some (.float .f32 (Go.floatOfInt .f32 x)) := by
  rw [e] at h; exact h
end Go.Proofs.YtpfjcfhgckpjmaaGreatDoor.Hs
