/- What the library's functions answer, as the walks of this seat take it: the table of powers, read where the call begins, stays. -/
import Derived.Test.YtdklgllbemiicaaDoorShelf
import Derived.Lib.AppendIntMem
import Derived.Stop.LaidErr
import Derived.Test.YtdklgllbemiicaaDoorWMore
namespace Go.Proofs.YtdklgllbemiicaaDoor.Tb
open Go.RowKit Go.Proofs.YtdklgllbemiicaaDoorW.PrintWords
/-- The table of powers of ten lies as the program lays it. -/
def TB (w : World) : Prop := Lib.TabIs Tryd.prog w "internal/strconv.uint64pow10" .u64 Lib.pow10Tab
theorem TB.below {w w' : World} (h : TB w) (hb : Below w.heap.size w w') : TB w' := Lib.tabBelow_of_tabIs h w' hb
theorem formatInt (n : Int) (h0 : -9223372036854775808 ≤ n) (h1 : n ≤ 9223372036854775807) (w : World) (ht : TB w) :
    Calls Tryd.prog 20 #[.int .i64 n, .int .i64 10] w fun e w' => e = .returned (.string ⟨(Lib.itoa n).toArray⟩) ∧ Below w.heap.size w w' :=
  (Tryd.strconv_FormatInt_10 n h0 h1 w ht).mono fun e w' ⟨he, k, os, hw⟩ => ⟨he, by rw [hw]; exact Lib.below_grow _ w (Nat.le_refl _) k os⟩
/-- A text that a list's address tells is at a plain address. -/
theorem plain_of_cell {w : World} {ad : Addr} {v : Value} (h : w.cell? ad = some v) : ∃ b o, ad = ⟨b, o, none⟩ ∧ b < w.heap.size := by
  obtain ⟨b, o, spot⟩ := ad
  have hs : spot = none := World.cell?_spot h
  subst hs
  exact ⟨b, o, rfl, World.block_lt_of_cell? w _ h⟩
theorem strJoin (A : Option Addr) (c : Nat) (xs : List ByteArray) (sep : ByteArray) (w : World) (hr : Kd.C Kd.string w A xs.length xs) (hc : xs.length ≤ c) (hN : xs.length ≤ 140737488355328) (hlen : (Lib.join (xs.map (·.data.toList)) sep.data.toList).length ≤ 140737488355328) :
    Calls Tryd.prog 42 #[.slice A xs.length c, .string sep] w fun e w' => e = .returned (.string ⟨(Lib.join (xs.map (·.data.toList)) sep.data.toList).toArray⟩) ∧ Below w.heap.size w w' := by
  have R := Kd.reads_of_C (enc := Value.string) (d := ByteArray.empty) (h1 := fun _ => rfl) hr
  by_cases h0 : xs.length = 0
  · have hx := List.eq_nil_of_length_eq_zero h0
    subst hx
    exact (Tryd.strings_Join_none A c sep w).mono fun e w' ⟨he, hw⟩ => ⟨he, by rw [hw]; exact Below.refl _ _⟩
  · obtain ⟨ad, rfl, hcell⟩ := R.2.2 (by omega)
    have had : ∃ b o, ad = ⟨b, o, none⟩ ∧ b < w.heap.size := by
      have h := hcell 0 (by omega)
      have e : ad.add 0 = ad := by simp [Addr.add]
      rw [e] at h
      exact plain_of_cell h
    obtain ⟨bk, ok, rfl, hbk⟩ := had
    refine Tryd.strings_Join bk ok c xs sep w (fun j x hj => ?_) hbk hN hc hlen
    have hl : j < xs.length := (List.getElem?_eq_some_iff.1 hj).1
    have h := hcell j hl
    rw [List.getD_eq_getElem?_getD, hj, Go.WideShapes.add_plain] at h
    exact h
/-- The library's two errors: each variable holds an error that is not nil. -/
def ER (w : World) : Prop := (∃ te pe, w.cell? ⟨1, 0, none⟩ = some (.iface te pe)) ∧ ∃ te pe, w.cell? ⟨2, 0, none⟩ = some (.iface te pe)
theorem ER.below {w w' : World} (h : ER w) (hb : Below w.heap.size w w') : ER w' := by
  obtain ⟨⟨t1, p1, h1⟩, t2, p2, h2⟩ := h
  refine ⟨⟨t1, p1, ?_⟩, t2, p2, ?_⟩
  · rw [hb.cell (World.block_lt_of_cell? w _ h1)]; exact h1
  · rw [hb.cell (World.block_lt_of_cell? w _ h2)]; exact h2
def TE (w : World) : Prop := TB w ∧ ER w
theorem TE.below {w w' : World} (h : TE w) (hb : Below w.heap.size w w') : TE w' := ⟨h.1.below hb, h.2.below hb⟩
open Go.ChangeShapes in
theorem iface_cell {P : Program} {n nm : String} {d : DataW Unit} {r : List (String × DataW Unit)} {W : World} {g : Nat} {ti : TypeId} {ms : Array (String × TypeId)}
    (h : laidMet P ((n, .iface nm d) :: r) W) (hg : P.globalNamed n = some g) (ht : (P.globals[g]?).map (·.type) = some ti) (hi : P.underlying ti = some (.interface ms)) :
    ∃ te pe, W.cell? ⟨g, 0, none⟩ = some (.iface te pe) := by
  obtain ⟨ps, ⟨g0, t0, cs0, f0, p0, q0, hg0, ht0, hv0, hd0, _, e0⟩, _, hrows⟩ := h
  obtain rfl := Option.some.inj (hg.symm.trans hg0)
  obtain rfl := Option.some.inj (ht.symm.trans ht0)
  subst e0
  obtain ⟨l0⟩ := cs0
  obtain ⟨f1, u, v, e, _⟩ := iface_of_trod hi hd0
  refine ⟨u, v, ?_⟩
  have := World.var?_cell hg0 hv0 0
  rw [this]
  have e' : l0 = [.iface u v] := e
  subst e'
  rfl
open Go.ChangeShapes in
theorem er_of_laid {n1 n2 : String} {m1 m2 : String} {d1 d2 : DataW Unit} {r : List (String × DataW Unit)} {W : World} {t1 t2 : TypeId} {ms1 ms2 : Array (String × TypeId)}
    (h : laidMet Tryd.prog ((n2, .iface m2 d2) :: (n1, .iface m1 d1) :: r) W)
    (g2 : Tryd.prog.globalNamed n2 = some 2) (k2 : (Tryd.prog.globals[2]?).map (·.type) = some t2) (i2 : Tryd.prog.underlying t2 = some (.interface ms2))
    (g1 : Tryd.prog.globalNamed n1 = some 1) (k1 : (Tryd.prog.globals[1]?).map (·.type) = some t1) (i1 : Tryd.prog.underlying t1 = some (.interface ms1)) : ER W :=
  ⟨iface_cell (laidMet.tail h) g1 k1 i1, iface_cell h g2 k2 i2⟩
/-- The error that ParseInt answers: nil, or one that is not nil. -/
def ErrIs : Bool → Value → Prop
  | true, v => ∃ te pe, v = .iface te pe
  | false, v => v = .nilIface
/-- What ParseInt at ten and 64 bits answers. -/
def parseV (s : ByteArray) : Int × Bool :=
  match Lib.parseIntB 64 s.data.toList with
  | .ok v => (v, false)
  | .«syntax» => (0, true)
  | .range => (Lib.intSat 64 s.data.toList, true)
theorem parseInt (s : ByteArray) (hs : s.size ≤ 281474976710656) (w : World) (he : ER w) :
    Calls Tryd.prog 26 #[.string s, .int .i64 10, .int .i64 64] w fun e w' => (∃ v, e = .returned (.tuple #[.int .i64 (parseV s).1, v]) ∧ ErrIs (parseV s).2 v) ∧ Below w.heap.size w w' := by
  obtain ⟨⟨t1, p1, h1⟩, t2, p2, h2⟩ := he
  unfold parseV
  cases h : Lib.parseIntB 64 s.data.toList with
  | ok v =>
    refine (Tryd.strconv_ParseInt_10_at64_ok s (by omega) v h w).mono fun e w' ⟨he, hw⟩ => ⟨⟨_, he, rfl⟩, ?_⟩
    rcases hw with rfl | ⟨t, rfl⟩
    · exact Below.refl _ _
    · exact Lib.bytesWorld_below w 5 t
  | «syntax» =>
    exact (Tryd.strconv_ParseInt_10_at64_syntax s hs h _ w h1 (.inr ⟨_, _, rfl⟩)).mono fun e w' ⟨N, he, _, _, hb⟩ => ⟨⟨_, he, _, _, rfl⟩, hb⟩
  | range =>
    exact (Tryd.strconv_ParseInt_10_at64_range s hs h _ w h2 (.inr ⟨_, _, rfl⟩)).mono fun e w' ⟨N, he, _, _, hb⟩ => ⟨⟨_, he, _, _, rfl⟩, hb⟩
/-- The library's bytealg.MaxLen holds some number. -/
def SP (w : World) : Prop := ∃ m, w.cell? ⟨5, 0, none⟩ = some (.int .i64 m)
theorem SP.below {w w' : World} (h : SP w) (hb : Below w.heap.size w w') : SP w' := by
  obtain ⟨m, h⟩ := h
  exact ⟨m, by rw [hb.cell (World.block_lt_of_cell? w _ h)]; exact h⟩
def TS (w : World) : Prop := TE w ∧ SP w
theorem TS.below {w w' : World} (h : TS w) (hb : Below w.heap.size w w') : TS w' := ⟨h.1.below hb, h.2.below hb⟩
theorem sp_of_shaped {w : World} (h : w.ShapedOpen Tryd.prog) : SP w :=
  Go.Proofs.cell_of_shapedOpen_int (zero := #[.int .i64 0]) (t := 3) h (of_decide_eq_true (by kernel_rfl)) (by kernel_rfl) rfl (by kernel_rfl) (by kernel_rfl) Tryd.underlying3
theorem splitStr (s sep : ByteArray) (hs : s.size < 4294967281) (h1 : 1 ≤ sep.size) (w : World) (hp : SP w) :
    Calls Tryd.prog 48 #[.string s, .string sep] w fun e w' => ∃ v0_ : Value, e = .returned (v0_) ∧ Kd.R Kd.string 9 w' w.heap.size (fun _ => True) v0_ (Lib.splitB sep 0 (Lib.countB s sep) s) ∧ Below w.heap.size w w' := by
  obtain ⟨m, hm⟩ := hp
  refine (Tryd.strings_Split s sep m w hs hm h1).mono fun e w' ⟨he, hw⟩ => ⟨_, he, ?_, ?_⟩
  · have hl := Lib.splitB_all sep h1 0 _ s rfl
    have hb := Lib.countB_le sep h1 _ s (Nat.le_refl _)
    rw [hw, ← hl]
    refine Kd.R_of_own (own_lit_of (enc := Value.string) w w.heap.size 9 _ (Nat.le_refl _) (by omega)) (fun _ _ => trivial)
  · rw [hw]; exact below_alloc (Below.refl _ _) _
end Go.Proofs.YtdklgllbemiicaaDoor.Tb
