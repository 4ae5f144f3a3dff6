/- What the library's functions answer, as the walks of this seat take it; a number's bits. -/
import Derived.Test.YtpfjcfhgckpjmaaGreatDoorA
import Derived.Test.YtpfjcfhgckpjmaaGreatDoorHx
namespace Go.Proofs.YtpfjcfhgckpjmaaGreatDoor.Hb
open Go.Fl Go.RowKit Ieee Go.Proofs.YtpfjcfhgckpjmaaGreatDoorW.PrintWords
theorem call43 (args : Array Value) (w : World) : (callFunc 45 args).run Tryz.prog w = ((Extern.MathFloatBits.float32bits args).run Tryz.prog w).andThen fun v w' => .ok (.value v) w' :=
  run_callFunc_extern Tryz.func45 (by kernel_rfl) (by kernel_rfl) (by kernel_rfl) (by kernel_rfl) args w
theorem bits43 (b : Nat) (w : World) : (callFunc 45 #[.float .f32 b]).run Tryz.prog w = .ok (.value (.int .u32 b)) w := by rw [call43]; rfl
theorem bits37 (b : Nat) (hb : b < 4294967296) (w : World) : Calls Tryz.prog 78 #[.float .f32 b] w fun e w' => e = .returned (.int .i64 (bitsV (val .f32 b))) ∧ w = w' := by
  have ho := neq_self .f32 b
  have hc := fun w => bits43 b w
  by_cases hn : FloatKind.f32.format.nan b = true
  · rw [hn] at ho
    rw [val_nan hn]
    clear hn
    go_enter Tryz.func78, Tryz.ntmps78
    go_wp2
    go_ret
    exact ⟨rfl, rfl⟩
  · have hn' : FloatKind.f32.format.nan b = false := by simpa using hn
    rw [hn'] at ho
    rw [val_num hn']
    clear hn hn'
    go_enter Tryz.func78, Tryz.ntmps78
    go_wp2
    go_ret
    exact ⟨rfl, rfl⟩
theorem bits32 (b : Nat) (hb : b < 4294967296) (w : World) : Calls Tryz.prog 8 #[.float .f32 b] w fun e w' => e = .returned (.int .i64 (bitsV (val .f32 b))) ∧ w = w' := by
  have ho := neq_self .f32 b
  have hc := fun w => bits43 b w
  by_cases hn : FloatKind.f32.format.nan b = true
  · rw [hn] at ho
    rw [val_nan hn]
    clear hn
    go_enter Tryz.func8, Tryz.ntmps8
    go_wp2
    go_ret
    exact ⟨rfl, rfl⟩
  · have hn' : FloatKind.f32.format.nan b = false := by simpa using hn
    rw [hn'] at ho
    rw [val_num hn']
    clear hn hn'
    go_enter Tryz.func8, Tryz.ntmps8
    go_wp2
    go_ret
    exact ⟨rfl, rfl⟩
/-- The library's table of trailing zeros, where formatBits reads it. -/
def HT (w : World) : Prop := w.cell? ⟨6, 15, none⟩ = some (.int .u8 4)
theorem HT.below {w w' : World} (h : HT w) (hb : Below w.heap.size w w') : HT w' := by
  unfold HT at *
  rw [hb.cell (World.block_lt_of_cell? w _ h)]; exact h
theorem hexInt (n : Int) (h0 : 0 ≤ n) (h1 : n < 4294967296) (w : World) (ht : HT w) :
    Calls Tryz.prog 73 #[.int .i64 n, .int .i64 16] w fun e w' => e = .returned (.string ⟨(Hx.hexDigits n.toNat).toArray⟩) ∧ Below w.heap.size w w' := by
  obtain ⟨u, rfl⟩ : ∃ u : Nat, n = u := ⟨n.toNat, by omega⟩
  exact Hx.formatHex u (by omega) w ht
theorem rep (s : ByteArray) (c : Int) (hs : s.size = 1) (h0 : 0 ≤ c) (h1 : c ≤ 8) (w : World) :
    Calls Tryz.prog 74 #[.string s, .int .i64 c] w fun e w' => e = .returned (.string ⟨(Lib.repeatL s.data.toList c.toNat).toArray⟩) ∧ Below w.heap.size w w' := by
  obtain ⟨u, rfl⟩ : ∃ u : Nat, c = u := ⟨c.toNat, by omega⟩
  exact Tryz.strings_Repeat s u w (by omega) (by rw [hs]; omega)
/-- A text that a list's address tells is at a plain address. -/
theorem plain_of_cell {w : World} {ad : Addr} {v : Value} (h : w.cell? ad = some v) : ∃ b o, ad = ⟨b, o, none⟩ ∧ b < w.heap.size := by
  obtain ⟨b, o, spot⟩ := ad
  have hs : spot = none := World.cell?_spot h
  subst hs
  exact ⟨b, o, rfl, World.block_lt_of_cell? w _ h⟩
theorem strJoin (A : Option Addr) (c : Nat) (xs : List ByteArray) (sep : ByteArray) (w : World) (hr : Kd.C Kd.string w A xs.length xs) (hc : xs.length ≤ c) (hN : xs.length ≤ 140737488355328) (hlen : (Lib.join (xs.map (·.data.toList)) sep.data.toList).length ≤ 140737488355328) :
    Calls Tryz.prog 75 #[.slice A xs.length c, .string sep] w fun e w' => e = .returned (.string ⟨(Lib.join (xs.map (·.data.toList)) sep.data.toList).toArray⟩) ∧ Below w.heap.size w w' := by
  have R := Kd.reads_of_C (enc := Value.string) (d := ByteArray.empty) (h1 := fun _ => rfl) hr
  by_cases h0 : xs.length = 0
  · have hx := List.eq_nil_of_length_eq_zero h0
    subst hx
    exact (Tryz.strings_Join_none A c sep w).mono fun e w' ⟨he, hw⟩ => ⟨he, by rw [hw]; exact Below.refl _ _⟩
  · obtain ⟨ad, rfl, hcell⟩ := R.2.2 (by omega)
    have had : ∃ b o, ad = ⟨b, o, none⟩ ∧ b < w.heap.size := by
      have h := hcell 0 (by omega)
      have e : ad.add 0 = ad := by simp [Addr.add]
      rw [e] at h
      exact plain_of_cell h
    obtain ⟨bk, ok, rfl, hbk⟩ := had
    refine Tryz.strings_Join bk ok c xs sep w (fun j x hj => ?_) hbk hN hc hlen
    have hl : j < xs.length := (List.getElem?_eq_some_iff.1 hj).1
    have h := hcell j hl
    rw [List.getD_eq_getElem?_getD, hj, Go.WideShapes.add_plain] at h
    exact h
end Go.Proofs.YtpfjcfhgckpjmaaGreatDoor.Hb
