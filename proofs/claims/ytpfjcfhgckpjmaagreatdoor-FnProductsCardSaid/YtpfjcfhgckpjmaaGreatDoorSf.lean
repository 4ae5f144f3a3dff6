/- The reference's source of choices: its state, and the drawing of numbers. The drawing of lists of numbers. -/
import Derived.Test.YtpfjcfhgckpjmaaGreatDoorFt
import Derived.ChangeSlices
import Derived.WalkKit
import Derived.Deep.LoopGhost
import Derived.Deep.QuietTactic
import Derived.BigQuiet
import Derived.IntWalk
import Derived.Deep.DeepCutAuto
import Derived.Deep.CutBlock
import Derived.Laws.Bits64b
import Derived.Laws.FloatArith
import Derived.Test.YtpfjcfhgckpjmaaGreatDoorQFnExactReadNumbersx5
set_option linter.unusedVariables false
set_option linter.unusedSimpArgs false
namespace Go
def IsRow (k : IntKind) (w : World) (a : Option Addr) (len cap : Nat) (zs : List Int) : Prop :=
  (a = none ∧ len = 0 ∧ cap = 0 ∧ zs = []) ∨
  ∃ x, a = some x ∧ len ≤ cap ∧ cap ≤ maxLen ∧ zs.length = cap ∧ (∀ i, i < zs.length → w.cell? (x.add i) = some (.int k (zs.getD i 0))) ∧ (∀ n ∈ zs, (Lit.int k n).wf = true)
theorem IsRow.len {k : IntKind} {w : World} {a : Option Addr} {len cap : Nat} {zs : List Int} (h : IsRow k w a len cap zs) : zs.length = cap ∧ len ≤ cap ∧ cap ≤ maxLen := by
  rcases h with ⟨-, rfl, rfl, rfl⟩ | ⟨x, -, h1, h2, h3, -⟩
  · exact ⟨rfl, Nat.le_refl _, Nat.zero_le _⟩
  · exact ⟨h3, h1, h2⟩
theorem add_block (x : Addr) (i : Nat) : (x.add i).block = x.block := by unfold Addr.add; split <;> rfl
theorem IsRow.move {k : IntKind} {w w' : World} {a : Option Addr} {len cap : Nat} {zs : List Int} (h : IsRow k w a len cap zs) (hb : ∀ x, a = some x → 0 < cap → w'.heap[x.block]? = w.heap[x.block]?) : IsRow k w' a len cap zs := by
  rcases h with h | ⟨x, h1, h2, h3, h4, h5, h6⟩
  · exact .inl h
  · refine .inr ⟨x, h1, h2, h3, h4, fun i hi => ?_, h6⟩
    rw [← h5 i hi]
    exact World.cell?_of_block (by rw [add_block]; exact hb x h1 (by omega))
theorem IsRow.lt {k : IntKind} {w : World} {a : Option Addr} {len cap : Nat} {zs : List Int} (h : IsRow k w a len cap zs) : ∀ x, a = some x → 0 < cap → x.block < w.heap.size := by
  rcases h with ⟨rfl, -, -, -⟩ | ⟨x, h1, h2, h3, h4, h5, h6⟩
  · intro x hx; cases hx
  · intro y hy hc
    rw [h1] at hy
    injection hy with hy
    subst hy
    have := World.block_lt_of_cell? w _ (h5 0 (by omega))
    rwa [add_block] at this
theorem IsRow.below {k : IntKind} {w w' : World} {a : Option Addr} {len cap : Nat} {zs : List Int} (h : IsRow k w a len cap zs) (hb : Go.RowKit.Below w.heap.size w w') : IsRow k w' a len cap zs :=
  h.move fun x hx hc => hb.block _ (h.lt x hx hc)
end Go
namespace Go.Proofs.YtpfjcfhgckpjmaaGreatDoor.Sr
open Go.Fl Go.RowKit Ieee Go.Proofs.YtpfjcfhgckpjmaaGreatDoor
theorem ret_int {k : IntKind} {a b : Int} (h : a = b) : Ending.returned (.int k a) = .returned (.int k b) := by rw [h]
/-- The source's block: its bytes, its place, its sequence. -/
def blk (a : Option Addr) (len cap : Nat) (i s : Int) : Obj := .cells #[.slice a len cap, .int .i64 i, .int .u64 s] 87 (0, 0)
/-- The source's state behind at most h readings; it began in w0. -/
structure St (w0 w : World) (b : Nat) (a : Option Addr) (len cap : Nat) (zs : List Int) (h : Nat) : Prop where
  src : ∃ i s : Int, 0 ≤ i ∧ i ≤ h ∧ 0 ≤ s ∧ s < 18446744073709551616 ∧ w.heap[b]? = some (blk a len cap i s)
  row : IsRow .u8 w a len cap zs
  apart : ∀ x, a = some x → 0 < cap → x.block < b
  grown : w0.grownBy w (some b)
section
variable {w0 w w1 : World} {b : Nat} {a : Option Addr} {len cap : Nat} {zs : List Int} {h h' : Nat}
theorem St.lt (s : St w0 w b a len cap zs h) : b < w.heap.size := by
  obtain ⟨i, s', -, -, -, -, hb⟩ := s.src
  exact (Array.getElem?_eq_some_iff.1 hb).1
theorem St.mono (s : St w0 w b a len cap zs h) (hh : h ≤ h') : St w0 w b a len cap zs h' := by
  obtain ⟨i, s', h0, h1, h2, h3, hb⟩ := s.src
  exact ⟨⟨i, s', h0, by omega, h2, h3, hb⟩, s.row, s.apart, s.grown⟩
/-- What leaves b and all older blocks leaves the state. -/
theorem St.step (s : St w0 w b a len cap zs h) (hg : w.grownBy w1 none ∨ ∃ k, b < k ∧ w0.heap.size ≤ k ∧ w.grownBy w1 (some k)) : St w0 w1 b a len cap zs h := by
  have hl := s.lt
  obtain ⟨i, s', h0, h1, h2, h3, hb⟩ := s.src
  have hk : ∀ k, k ≤ b → w1.heap[k]? = w.heap[k]? := by
    intro k hk
    rcases hg with hg | ⟨q, hq, -, hg⟩
    · exact hg.block k (by omega) (by simp)
    · exact hg.block k (by omega) (by simp; omega)
  refine ⟨⟨i, s', h0, h1, h2, h3, by rw [hk b (Nat.le_refl _)]; exact hb⟩, s.row.move (fun x hx hc => hk _ (Nat.le_of_lt (s.apart x hx hc))), s.apart, ?_⟩
  have e := s.grown
  rcases hg with hg | ⟨q, hq, hq0, hg⟩
  · exact ⟨hg.os.trans e.os, hg.tape.trans e.tape, hg.output.trans e.output, Nat.le_trans e.size hg.size, fun k hk hne => (hg.block k (by have := e.size; omega) (by simp)).trans (e.block k hk hne)⟩
  · exact ⟨hg.os.trans e.os, hg.tape.trans e.tape, hg.output.trans e.output, Nat.le_trans e.size hg.size, fun k hk hne => (hg.block k (by have := e.size; omega) (by simp; omega)).trans (e.block k hk hne)⟩
theorem St.drewN (s : St w0 w b a len cap zs h) (n : Nat) : St w0 (w.drewN n) b a len cap zs h := s.step (.inl ⟨rfl, rfl, rfl, Nat.le_refl _, fun _ _ _ => rfl⟩)
theorem St.alloc (s : St w0 w b a len cap zs h) (o : Obj) : St w0 (w.alloc o) b a len cap zs h := s.step (.inl (World.grownBy_alloc w o none))
/-- The same, begun now. -/
theorem St.self (s : St w0 w b a len cap zs h) : St w w b a len cap zs h := ⟨s.src, s.row, s.apart, World.grownBy.refl _ _⟩
theorem St.tr (s : St w0 w b a len cap zs h) (t : St w w1 b a len cap zs h') : St w0 w1 b a len cap zs h' := ⟨t.src, t.row, t.apart, s.grown.trans t.grown⟩
end
theorem blk_cell {w : World} {b : Nat} {a : Option Addr} {len cap : Nat} {i s : Int} (hb : w.heap[b]? = some (blk a len cap i s)) :
    w.cell? ⟨b, 0, none⟩ = some (.slice a len cap) ∧ w.cell? ⟨b, 1, none⟩ = some (.int .i64 i) ∧ w.cell? ⟨b, 2, none⟩ = some (.int .u64 s) ∧ (∀ j, w.frozen? ⟨b, j, none⟩ = false) := by
  unfold blk at hb
  refine ⟨?_, ?_, ?_, fun j => ?_⟩
  · simp [World.cell?, hb]
  · simp [World.cell?, hb]
  · simp [World.cell?, hb]
  · simp [World.frozen?, hb]
theorem heap_set {w : World} {b j : Nat} {v : Value} {cs : Array Value} {t : TypeId} {f : Nat × Nat} (hb : w.heap[b]? = some (.cells cs t f)) : (w.setCell ⟨b, j, none⟩ v).heap[b]? = some (.cells (cs.setIfInBounds j v) t f) := by
  simp [World.setCell, Array.getElem?_modify, hb]
theorem blk_set1 {w : World} {b : Nat} {a : Option Addr} {len cap : Nat} {i s : Int} (hb : w.heap[b]? = some (blk a len cap i s)) (i' : Int) : (w.setCell ⟨b, 1, none⟩ (.int .i64 i')).heap[b]? = some (blk a len cap i' s) := by
  unfold blk at hb ⊢
  rw [heap_set hb]
  rfl
theorem blk_set2 {w : World} {b : Nat} {a : Option Addr} {len cap : Nat} {i s : Int} (hb : w.heap[b]? = some (blk a len cap i s)) (s' : Int) : (w.setCell ⟨b, 2, none⟩ (.int .u64 s')).heap[b]? = some (blk a len cap i s') := by
  unfold blk at hb ⊢
  rw [heap_set hb]
  rfl
theorem grown_set {w0 w : World} {b : Nat} (h : w0.grownBy w (some b)) (j : Nat) (v : Value) : w0.grownBy (w.setCell ⟨b, j, none⟩ v) (some b) :=
  ⟨h.os, h.tape, h.output, by have := h.size; simpa [World.setCell] using this, fun k hk hne => (Below.heap_setCell w ⟨b, j, none⟩ v k (fun e => hne (by rw [e]))).trans (h.block k hk hne)⟩
/-- Some number below m, and the source behind h readings. -/
def Pk (m : Int) (w0 : World) (b : Nat) (a : Option Addr) (len cap : Nat) (zs : List Int) (h : Nat) (e : Ending) (w' : World) : Prop := ∃ z : Int, 0 ≤ z ∧ z < m ∧ e = .returned (.int .i64 z) ∧ St w0 w' b a len cap zs h
theorem wrap_small {i : Int} {h : Nat} (h0 : 0 ≤ i) (h1 : i ≤ h) (hh : h < 1099511627776) : wrap64 (i + 1) = i + 1 := by unfold wrap64; omega
theorem u64_range (x : Int) : 0 ≤ x % 18446744073709551616 ∧ x % 18446744073709551616 < 18446744073709551616 := by omega
theorem and255 (x : Int) : 0 ≤ bits .and .u64 x 255 ∧ bits .and .u64 x 255 < 256 := by
  have h2 : (BitVec.ofInt 64 255).toNat = 255 := by decide
  show 0 ≤ IntKind.u64.wrap ((BitVec.ofInt 64 x &&& BitVec.ofInt 64 255).toNat : Int) ∧ IntKind.u64.wrap ((BitVec.ofInt 64 x &&& BitVec.ofInt 64 255).toNat : Int) < 256
  rw [BitVec.toNat_and, h2]
  have : (BitVec.ofInt 64 x).toNat &&& 255 ≤ 255 := Nat.and_le_right
  generalize (BitVec.ofInt 64 x).toNat &&& 255 = q at this
  simp only [IntKind.wrap, IntKind.bits, IntKind.signed]
  simp
  omega
theorem wrap_and (x : Int) : wrap64 (bits .and .u64 x 255) = bits .and .u64 x 255 := by
  have := and255 x
  generalize bits .and .u64 x 255 = q at this
  unfold wrap64; omega
theorem wrapU (x : Int) : 0 ≤ IntKind.u64.wrap x ∧ IntKind.u64.wrap x < 18446744073709551616 := by
  simp only [IntKind.wrap, IntKind.bits, IntKind.signed]
  simp
  omega
set_option maxRecDepth 10000 in
theorem next68 {w0 w : World} {b : Nat} {a : Option Addr} {len cap : Nat} {zs : List Int} {h : Nat} (S : St w0 w b a len cap zs h) (hh : h < 1099511627776) :
    Calls Tryz.prog 68 #[.pointer (some ⟨b, 0, none⟩)] w (Pk 256 w b a len cap zs (h + 1)) := by
  obtain ⟨i, s, hi0, hi, hs0, hs, hb⟩ := S.src
  obtain ⟨c0, c1, c2, cf⟩ := blk_cell hb
  obtain ⟨hl, hll, hm⟩ := S.row.len
  unfold maxLen at hm
  have hw := wrap_small hi0 hi hh
  have fin : ∀ (n m : Nat) (v : Int), St w ((((w.drewN n).setCell ⟨b, 1, none⟩ (.int .i64 (i + 1))).setCell ⟨b, 2, none⟩ (.int .u64 (IntKind.u64.wrap v))).drewN m) b a len cap zs (h + 1) := by
    intro n m v
    have hb0 : (w.drewN n).heap[b]? = some (blk a len cap i s) := hb
    have hb1 := blk_set1 hb0 (i + 1)
    have hb2 := blk_set2 hb1 (IntKind.u64.wrap v)
    have hg0 : w.grownBy (w.drewN n) (some b) := ⟨rfl, rfl, rfl, Nat.le_refl _, fun _ _ _ => rfl⟩
    have hg : w.grownBy (((w.drewN n).setCell ⟨b, 1, none⟩ (.int .i64 (i + 1))).setCell ⟨b, 2, none⟩ (.int .u64 (IntKind.u64.wrap v))) (some b) := grown_set (grown_set hg0 1 _) 2 _
    have q : St w (((w.drewN n).setCell ⟨b, 1, none⟩ (.int .i64 (i + 1))).setCell ⟨b, 2, none⟩ (.int .u64 (IntKind.u64.wrap v))) b a len cap zs (h + 1) := ⟨⟨i + 1, _, by omega, by omega, (wrapU v).1, (wrapU v).2, hb2⟩, S.row.move (fun x hx hc => hg.block _ (by have := S.apart x hx hc; have := S.lt; omega) (by have := S.apart x hx hc; simp; omega)), S.apart, hg⟩
    exact q.drewN m
  by_cases hlt : i < len
  · obtain ⟨x, z, rfl, hc, hz0, hz1⟩ : ∃ x z, a = some x ∧ w.cell? (x.add i.toNat) = some (.int .u8 z) ∧ 0 ≤ z ∧ z < 256 := by
      rcases S.row with ⟨-, e, -⟩ | ⟨x, h1, h2, h3, h4, h5, h6⟩
      · omega
      · have hc := h5 i.toNat (by omega)
        have hw := h6 (zs.getD i.toNat 0) (by
          rw [List.getD_eq_getElem?_getD, List.getElem?_eq_getElem (by omega)]
          simp)
        obtain ⟨p1, p2⟩ := Bool.and_eq_true_iff.1 (show (decide (IntKind.u8.min ≤ _) && decide (_ ≤ IntKind.u8.max)) = true from hw)
        have q1 := of_decide_eq_true p1
        have q2 := of_decide_eq_true p2
        exact ⟨x, _, h1, hc, q1, by have : IntKind.u8.max = 255 := rfl; omega⟩
    go_enter Tryz.func68, Tryz.ntmps68
    go_wp2
    go_quiet (fail)
    go_wp2
    go_quiet (fail)
    go_wp2
    go_quiet (fail)
    go_wp2
    go_ret
    exact ⟨_, hz0, hz1, rfl, fin _ _ _⟩
  · go_enter Tryz.func68, Tryz.ntmps68
    go_wp2
    go_quiet (fail)
    go_wp2
    go_quiet (fail)
    go_wp2
    go_ret
    exact ⟨_, by rw [wrap_and]; exact (and255 _).1, by rw [wrap_and]; exact (and255 _).2, rfl, fin _ _ _⟩
theorem wrap_pick (z z2 : Int) (h0 : 0 ≤ z) (h1 : z < 256) (h2 : 0 ≤ z2) (h3 : z2 < 256) : wrap64 (z * 256 + z2) = z * 256 + z2 := by unfold wrap64; omega
theorem pick40 (n : Int) (hn : 1 ≤ n) (hn2 : n ≤ 1099511627776) {w0 w : World} {b : Nat} {a : Option Addr} {len cap : Nat} {zs : List Int} {h : Nat} (S : St w0 w b a len cap zs h) (hh : h < 1099511627700) :
    Calls Tryz.prog 40 #[.pointer (some ⟨b, 0, none⟩), .int .i64 n] w (Pk n w b a len cap zs (h + 2)) := by
  have C1 := next68 S (by omega)
  by_cases h1 : n ≤ 1
  · go_enter Tryz.func40, Tryz.ntmps40
    go_wp2
    go_ret
    exact ⟨0, by omega, by omega, rfl, S.self.mono (by omega)⟩
  by_cases h2 : n > 200
  · go_enter Tryz.func40, Tryz.ntmps40
    go_wp2_with (first | (go_at_call 68; refine C1.mono ?_; rintro e w' ⟨z, hz0, hz1, rfl, S1⟩; have C2 := next68 S1 (by omega)) | (go_at_call 68; refine C2.mono ?_; rintro e w2 ⟨z2, hz2, hz3, rfl, S2⟩; have hw := wrap_pick z z2 hz0 hz1 hz2 hz3))
    go_ret
    exact ⟨_, Int.emod_nonneg _ (by omega), Int.emod_lt_of_pos _ (by omega), ret_int rfl, S1.tr S2⟩
  · go_enter Tryz.func40, Tryz.ntmps40
    go_wp2_with (go_at_call 68; refine C1.mono ?_; rintro e w' ⟨z, hz0, hz1, rfl, S1⟩)
    go_ret
    exact ⟨_, Int.emod_nonneg _ (by omega), Int.emod_lt_of_pos _ (by omega), rfl, S1.mono (by omega)⟩
def Yn (w0 : World) (b : Nat) (a : Option Addr) (len cap : Nat) (zs : List Int) (h : Nat) (e : Ending) (w' : World) : Prop := ∃ z : Bool, e = .returned (.bool z) ∧ St w0 w' b a len cap zs h
theorem one39 (n : Int) (hn : 1 ≤ n) (hn2 : n ≤ 1099511627776) {w0 w : World} {b : Nat} {a : Option Addr} {len cap : Nat} {zs : List Int} {h : Nat} (S : St w0 w b a len cap zs h) (hh : h < 1099511627700) :
    Calls Tryz.prog 39 #[.pointer (some ⟨b, 0, none⟩), .int .i64 n] w (Yn w b a len cap zs (h + 2)) := by
  have C1 := pick40 n hn hn2 S hh
  go_enter Tryz.func39, Tryz.ntmps39
  go_wp2_with (go_at_call 40; refine C1.mono ?_; rintro e w' ⟨z, hz0, hz1, rfl, S1⟩)
  go_ret
  exact ⟨_, rfl, S1⟩
theorem from38 {a : Option Addr} {len cap : Nat} {zs : List Int} {w : World} (hr : IsRow .u8 w a len cap zs) :
    Calls Tryz.prog 38 #[.slice a len cap] w fun e w' => e = .returned (.pointer (some ⟨w.heap.size, 0, none⟩)) ∧ St w w' w.heap.size a len cap zs 0 := by
  go_enter Tryz.func38, Tryz.ntmps38
  go_wp2
  go_ret
  refine ⟨rfl, ⟨⟨0, 0, by omega, by omega, by omega, by omega, heap_alloc_new w _⟩, hr.move (fun x hx hc => (World.grownBy_alloc w _ none).block _ (hr.lt x hx hc) (by simp)), hr.lt, World.grownBy_alloc w _ _⟩⟩
def Fp (w0 : World) (b : Nat) (a : Option Addr) (len cap : Nat) (zs : List Int) (h : Nat) (e : Ending) (w' : World) : Prop := ∃ r : Nat, r < 4294967296 ∧ e = .returned (.float .f32 r) ∧ St w0 w' b a len cap zs h
theorem wrap32 (n : Int) : 0 ≤ n % 4294967296 ∧ (n % 4294967296).toNat < 4294967296 := by omega
set_option maxRecDepth 100000 in
theorem from41 (n : Int) (W : World) : Calls Tryz.prog 41 #[.int .i64 n] W fun e w' => ∃ r : Nat, r < 4294967296 ∧ e = .returned (.float .f32 r) ∧ w' = W := by
  have hc := from40 (n % 4294967296) W
  go_enter Tryz.func41, Tryz.ntmps41
  go_wp2
  go_ret
  exact ⟨_, (wrap32 n).2, rfl, rfl⟩
theorem plain69 {w0 w : World} {b : Nat} {a : Option Addr} {len cap : Nat} {zs : List Int} {h : Nat} (S : St w0 w b a len cap zs h) (hh : h < 1099511627600) : Calls Tryz.prog 69 #[.pointer (some ⟨b, 0, none⟩)] w (Fp w b a len cap zs (h + 4)) := by
  have C1 := pick40 129 (by omega) (by omega) S (by omega)
  go_enter Tryz.func69, Tryz.ntmps69
  go_wp2_with (first | (go_at_call 40; refine C1.mono ?_; rintro e w' ⟨z, hz0, hz1, rfl, S1⟩; have C2 := one39 4 (by omega) (by omega) S1 (by omega)) | (go_at_call 39; refine C2.mono ?_; rintro e w2 ⟨y, rfl, S2⟩; cases y) | (refine wpList_ar _ _ _ _ _ rfl rfl rfl _ _ _ rfl rfl (by first | with_reducible assumption | exact Is.const64 (by decide +kernel) | exact Is.const32 (by decide +kernel) | exact Is.of_wf (floatOfInt_wf _ _) | exact Is.of_lt (by assumption)) (by first | with_reducible assumption | exact Is.const64 (by decide +kernel) | exact Is.const32 (by decide +kernel) | exact Is.of_wf (floatOfInt_wf _ _) | exact Is.of_lt (by assumption)) ?_; intro r n hr))
  all_goals
    go_ret
    exact ⟨_, hr.2, rfl, (S1.tr S2).drewN _⟩
def Am (w0 : World) (b : Nat) (a : Option Addr) (len cap : Nat) (zs : List Int) (h : Nat) (e : Ending) (w' : World) : Prop := ∃ z : Int, e = .returned (.int .i64 z) ∧ St w0 w' b a len cap zs h
theorem among70 (ys : List Int) (g t : Nat) (f : Nat × Nat) (h0 : 1 ≤ ys.length) (h1 : ys.length ≤ 100) {w0 w : World} {b : Nat} {a : Option Addr} {len cap : Nat} {zs : List Int} {h : Nat} (S : St w0 w b a len cap zs h) (hg : w.heap[g]? = some (.cells (ys.map (Value.int .i64)).toArray t f)) (hgb : g ≠ b) (hh : h < 1099511627600) :
    Calls Tryz.prog 70 #[.pointer (some ⟨b, 0, none⟩), .slice (some ⟨g, 0, none⟩) ys.length ys.length] w (Am w b a len cap zs (h + 2)) := by
  have C1 := pick40 ys.length (by omega) (by omega) S (by omega)
  have hx : ∀ (z : Int) (w' : World), 0 ≤ z → z < ys.length → w.grownBy w' (some b) → w'.cell? ⟨g, z.toNat, none⟩ = some (.int .i64 (ys.getD z.toNat 0)) := by
    intro z w' q0 q1 hgr
    have e : w'.heap[g]? = _ := (hgr.block g (Array.getElem?_eq_some_iff.1 hg).1 (by simpa using hgb)).trans hg
    have q2 : z.toNat < ys.length := by omega
    simp only [World.cell?, e, Option.isSome_none, Bool.false_eq_true, if_false]
    simp [List.getD_eq_getElem?_getD, q2]
  have L0 : ((ys.length : Nat) : Int) = ys.length := rfl
  generalize ys.length = m at *
  go_enter Tryz.func70, Tryz.ntmps70
  go_wp2_with (go_at_call 40; refine C1.mono ?_; rintro e w' ⟨z, hz0, hz1, rfl, S1⟩; have hv := hx z w' hz0 hz1 S1.grown)
  go_ret
  exact ⟨_, rfl, S1⟩
theorem ne_new {w0 w : World} {b : Nat} {a : Option Addr} {len cap : Nat} {zs : List Int} {h : Nat} (S : St w0 w b a len cap zs h) : w.heap.size ≠ b := by have := S.lt; omega
theorem lit10 {w0 w : World} {b : Nat} {a : Option Addr} {len cap : Nat} {zs : List Int} {h : Nat} (S : St w0 w b a len cap zs h) (hh : h < 1099511627600) : Calls Tryz.prog 70 #[.pointer (some ⟨b, 0, none⟩), .slice (some ⟨w.heap.size, 0, none⟩) 10 10] (w.alloc (.cells #[.int .i64 0, .int .i64 2147483648, .int .i64 2139095040, .int .i64 4286578688, .int .i64 2143289344, .int .i64 1, .int .i64 2139095039, .int .i64 8388608, .int .i64 8388607, .int .i64 2147483649] 2)) (Am w b a len cap zs (h + 2)) :=
  (among70 [0, 2147483648, 2139095040, 4286578688, 2143289344, 1, 2139095039, 8388608, 8388607, 2147483649] w.heap.size 2 (0, 0) (by decide) (by decide) (S.alloc _) (heap_alloc_new w _) (ne_new S) hh).mono fun e w' ⟨z, he, s⟩ => ⟨z, he, (S.self.alloc _).tr s⟩
theorem lit4 {w0 w : World} {b : Nat} {a : Option Addr} {len cap : Nat} {zs : List Int} {h : Nat} (S : St w0 w b a len cap zs h) (hh : h < 1099511627600) : Calls Tryz.prog 70 #[.pointer (some ⟨b, 0, none⟩), .slice (some ⟨w.heap.size, 0, none⟩) 4 4] (w.alloc (.cells #[.int .i64 8388608, .int .i64 2130706432, .int .i64 1610612736, .int .i64 536870912] 2)) (Am w b a len cap zs (h + 2)) :=
  (among70 [8388608, 2130706432, 1610612736, 536870912] w.heap.size 2 (0, 0) (by decide) (by decide) (S.alloc _) (heap_alloc_new w _) (ne_new S) hh).mono fun e w' ⟨z, he, s⟩ => ⟨z, he, (S.self.alloc _).tr s⟩
set_option maxRecDepth 100000 in
theorem float42 {w0 w : World} {b : Nat} {a : Option Addr} {len cap : Nat} {zs : List Int} {h : Nat} (S : St w0 w b a len cap zs h) (hh : h < 1099511627000) : Calls Tryz.prog 42 #[.pointer (some ⟨b, 0, none⟩)] w (Fp w b a len cap zs (h + 16)) := by
  have C1 := one39 12 (by omega) (by omega) S (by omega)
  go_enter Tryz.func42, Tryz.ntmps42
  go_upto_region 2 with (go_at_call 39; refine C1.mono ?_; rintro e w' ⟨y, rfl, S1⟩; cases y)
  · go_wp2_with (go_at_call 69; refine (plain69 S1 (by omega)).mono ?_; rintro e w' ⟨p, hp, rfl, S2⟩)
    go_ret
    exact ⟨_, hp, rfl, (S1.tr S2).mono (by omega)⟩
  · refine (pick40 4 (by omega) (by omega) S1 (by omega)).mono ?_
    rintro e w2 ⟨z, hz0, hz1, rfl, S2⟩
    by_cases e0 : z = 0
    · subst e0
      go_wp2_with (first | (go_at_call 70; refine (lit10 S2 (by omega)).mono ?_; rintro e w' ⟨v, rfl, S3⟩) | (go_at_call 41; refine (from41 _ _).mono ?_; rintro e w' ⟨q, hq, rfl, rfl⟩))
      go_ret
      exact ⟨_, hq, rfl, ((S1.tr S2).tr S3).mono (by omega)⟩
    by_cases e1 : z = 1
    · subst e1
      go_wp2_with (first | (go_at_call 40; refine (pick40 65536 (by omega) (by omega) S2 (by omega)).mono ?_; rintro e w' ⟨xS3, hx0S3, hx1S3, rfl, S3⟩) | (go_at_call 40; refine (pick40 65536 (by omega) (by omega) S3 (by omega)).mono ?_; rintro e w' ⟨xS4, hx0S4, hx1S4, rfl, S4⟩) | (go_at_call 41; refine (from41 _ _).mono ?_; rintro e w' ⟨q, hq, rfl, rfl⟩))
      go_ret
      exact ⟨_, hq, rfl, (((S1.tr S2).tr S3).tr S4).mono (by omega)⟩
    by_cases e2 : z = 2
    · subst e2
      go_wp2_with (first | (go_at_call 40; refine (pick40 65536 (by omega) (by omega) S2 (by omega)).mono ?_; rintro e w' ⟨xS3, hx0S3, hx1S3, rfl, S3⟩) | (go_at_call 41; refine (from41 _ _).mono ?_; rintro e w' ⟨q, hq, rfl, rfl⟩))
      go_ret
      exact ⟨_, hq, rfl, ((S1.tr S2).tr S3).mono (by omega)⟩
    obtain rfl : z = 3 := by omega
    go_wp2_with (first | (go_at_call 69; refine (plain69 S2 (by omega)).mono ?_; rintro e w' ⟨p, hp, rfl, S3⟩) | (go_at_call 70; refine (lit4 S3 (by omega)).mono ?_; rintro e w' ⟨v, rfl, S4⟩) | (go_at_call 41; refine (from41 _ _).mono ?_; rintro e w' ⟨q, hq, rfl, rfl⟩) | (refine wpList_ar _ _ _ _ _ rfl rfl rfl _ _ _ rfl rfl (by first | with_reducible assumption | exact Is.const64 (by decide +kernel) | exact Is.const32 (by decide +kernel) | exact Is.of_wf (floatOfInt_wf _ _) | exact Is.of_lt (by assumption)) (by first | with_reducible assumption | exact Is.const64 (by decide +kernel) | exact Is.const32 (by decide +kernel) | exact Is.of_wf (floatOfInt_wf _ _) | exact Is.of_lt (by assumption)) ?_; intro r n hr))
    go_ret
    exact ⟨_, hr.2, rfl, ((((S1.tr S2).tr S3).tr S4).drewN _).mono (by omega)⟩
end Go.Proofs.YtpfjcfhgckpjmaaGreatDoor.Sr
set_option linter.unusedVariables false
set_option linter.unusedSimpArgs false
namespace Go.Proofs.YtpfjcfhgckpjmaaGreatDoor.Sr
open Go.Fl Go.RowKit Ieee Go.Proofs.YtpfjcfhgckpjmaaGreatDoor Go.Proofs.YtpfjcfhgckpjmaaGreatDoorW.PrintWords Go.Proofs.YtpfjcfhgckpjmaaGreatDoorW.PrintLast Go.Proofs.YtpfjcfhgckpjmaaGreatDoorW.PrintMore
theorem info24 : (Tryz.prog.info? 24).map (fun i => (i.zero, i.size, i.bytes)) = some (some (.float .f32 0), 1, 4) := by kernel_rfl
section
variable {w0 w w1 : World} {b : Nat} {a : Option Addr} {len cap : Nat} {zs : List Int} {h : Nat}
theorem St.app {base : Nat} {ok : Nat → Prop} {v : Value} {ys : List Int} (s : St w0 w b a len cap zs h) (hR : Ft.Kf.R 24 w base ok v ys) (hb : b < base ∧ w0.heap.size ≤ base) (hg : w.grownBy w1 v.ownBlock) : St w0 w1 b a len cap zs h := by
  cases e : v.ownBlock with
  | none => rw [e] at hg; exact s.step (.inl hg)
  | some k =>
    rw [e] at hg
    have := Kd.R_base hR k e
    exact s.step (.inr ⟨k, by omega, by omega, hg⟩)
theorem fresh (s : St w0 w b a len cap zs h) : ∀ k, w.heap.size ≤ k → k ≠ b := fun k hk e => by have := s.lt; omega
theorem small (ys : List Int) {q n : Nat} (hl : ys.length + q = n) (hn : n ≤ 40) : (ys.length + 1) * 4 ≤ 140737488355328 := by omega
end
theorem wrapq (q : Nat) (h : q < 100) : wrap64 (q : Int) = q := by unfold wrap64; omega
theorem down (q : Nat) (h : q < 100) : wrap64 (((q + 1 : Nat) : Int) - 1) = (q : Int) := by unfold wrap64; omega
theorem size_le {w0 w w1 : World} {b : Nat} {a : Option Addr} {len cap : Nat} {zs : List Int} {h h' : Nat} (s : St w0 w b a len cap zs h) (t : St w w1 b a len cap zs h') : w0.heap.size ≤ w1.heap.size := Nat.le_trans s.grown.size t.grown.size
theorem hgt4 (q n h : Nat) (hn : n ≤ 40) {l : Nat} (e : l + (q + 1) = n) : h + 2 + 16 * (n - (q + 1)) + 4 ≤ h + 2 + 16 * (n - q) := by omega
theorem hgt16 (q n h : Nat) (hn : n ≤ 40) {l : Nat} (e : l + (q + 1) = n) : h + 2 + 16 * (n - (q + 1)) + 16 ≤ h + 2 + 16 * (n - q) := by omega
/-- A list of n numbers, each a single. -/
def okS (ys : List Int) : Prop := ∀ y ∈ ys, 0 ≤ y ∧ y < 4294967296
theorem okS_snoc {ys : List Int} {p : Nat} (h : okS ys) (hp : p < 4294967296) : okS (ys ++ [(p : Int)]) := by
  intro y hy
  rcases List.mem_append.1 hy with hy | hy
  · exact h y hy
  · rw [List.mem_singleton] at hy; omega
def Rowf (n : Nat) (w : World) (b : Nat) (a : Option Addr) (len cap : Nat) (zs : List Int) (h : Nat) (e : Ending) (w' : World) : Prop :=
  ∃ v ys, e = .returned v ∧ Ft.Kf.R 24 w' w.heap.size (fun k => k ≠ b) v ys ∧ ys.length = n ∧ okS ys ∧ St w w' b a len cap zs h
set_option maxRecDepth 100000 in
theorem floats47 (n : Nat) (hn0 : n ≤ 40) {w0 w : World} {b : Nat} {a : Option Addr} {len cap : Nat} {zs : List Int} {h : Nat} (S : St w0 w b a len cap zs h) (hh : h < 1099511000000) : Calls Tryz.prog 47 #[.pointer (some ⟨b, 0, none⟩), .int .i64 n] w (Rowf n w b a len cap zs (h + 16 * n + 2)) := by
  have hn := Lib.hid hn0
  have hbb := Lib.hid (show b < w.heap.size ∧ w.heap.size ≤ w.heap.size from ⟨S.lt, Nat.le_refl _⟩)
  go_enter Tryz.func47, Tryz.ntmps47
  go_wp2_with (((with_reducible refine gate_dst (N := 7) rfl ?_); refine Kd.R_lit Ft.Kf (w0 := w) w.heap.size 24 ?hg (N := 7) ?hd (xs := ([] : List Int)) (inner := []) (ok := fun k => k ≠ b) (okp := fun k => k ≠ b) ?hr ?hp (fun _ hk => hk) ?hf (Below.refl _ _) (Nat.le_refl _) (by simp) ?_; (case hd => rfl); (case hg => rfl); (case hr => first | (go_simp; done) | (go_simp; rfl)); (case hp => exact (Reps.none _ _)); (case hf => exact ne_new S); intro v1 w1 ho hb1 hg1 hnew))
  have SA : St w w1 b a len cap zs h := S.self.step (.inl hg1)
  refine (one39 4 (by omega) (by omega) SA (by omega)).mono ?_
  rintro e w2 ⟨y, rfl, s2⟩
  have hR := Lib.hid (Kd.R_grown ho s2.grown (fun k hk he => hk (Option.some.inj he)))
  have SB := Lib.hid (SA.tr s2)
  clear SA s2 ho hb1 hg1 hnew
  cases y
  · go_wp2
    go_loopg [1, 5] n (fun q u1 v5 w' => ∃ ys : List Int, u1 = .int .i64 (q : Nat) ∧ Hid (ys.length + q = n) ∧ Hid (okS ys) ∧ Hid (Ft.Kf.R 24 w' w.heap.size (fun k => k ≠ b) v5 ys) ∧ Hid (St w w' b a len cap zs (h + 2 + 16 * (n - q))))
    case atStart => exact ⟨[], rfl, Lib.hid (by simp), Lib.hid (fun y hy => by cases hy), hR, Lib.hid (by have := SB.out; rwa [Nat.sub_self])⟩
    case round =>
      clear hR SB
      obtain ⟨ys, rfl, hlen, hok, hRL, SL⟩ := hrel
      cases gk with
      | zero =>
        have hl := hlen.out
        go_wp2
        go_ret
        exact ⟨_, ys, rfl, hRL.out, by omega, hok.out, SL.out.mono (by omega)⟩
      | succ q =>
        have hq := Lib.hid (show h + 2 + 16 * (n - (q + 1)) < 1099511627000 by have := hn.out; omega)
        have hw := down q (by have := hn.out; have := hlen.out; omega)
        have hpos : (0 : Int) < ((q + 1 : Nat) : Int) := by omega
        have hpos2 : ((q + 1 : Nat) : Int) > 0 := hpos
        go_wp2_with (first | (go_at_call 69; refine (plain69 SL.out (by have := hq.out; omega)).mono ?_; rintro e w4 ⟨p, hp, rfl, s2⟩; have hR2 := Lib.hid (Kd.R_grown hRL.out s2.grown (fun k hk he => hk (Option.some.inj he))); have hfr2 := Lib.hid (fresh s2); have hsz2 := Lib.hid (size_le SL.out s2); have hl2 := Lib.hid (small ys hlen.out hn.out); have S2 := Lib.hid ((SL.out.tr s2).mono (hgt4 q n h hn.out hlen.out)); have hok2 := Lib.hid (okS_snoc hok.out hp); clear s2 hp) | ((with_reducible refine gate_builtin (b := .append) (xs := #[.tmp 20, .tmp 23]) rfl ?_); at_builtin; refine Kd.R_append Ft.Kf (w0 := w4) w.heap.size rfl (.tmp 20) (.tmp 23) 30 24 (.float .f32 0) 4 rfl Tryz.underlying30 info24 rfl (by decide) (by omega) u5 ys (p : Int) [.float .f32 p] (fun k => k ≠ b) (fun _ => False) rfl rfl rfl (fun _ hk => hk.elim) ?aF ?aO ?aR ?aB ?aL ?_; (case aR => exact Below.refl _ _); (case aF => exact hfr2.out); (case aO => exact hR2.out); (case aB => exact hsz2.out); (case aL => exact hl2.out); intro v6 w5 ho5 hb5 hg5 hat5; have S3 := Lib.hid (St.app S2.out hR2.out hbb.out hg5); have hR3 := Lib.hid ho5; clear ho5 hb5 hg5 hat5))
        go_roundg q
        case measure => omega
        case rel => exact ⟨ys ++ [_], congrArg (Value.int .i64) (wrapq q (by have := hn.out; have := hlen.out; omega)), Lib.hid (by have := hlen.out; simp; omega), hok2, hR3, S3⟩

  · go_wp2
    go_loopg [1, 5] n (fun q u1 v5 w' => ∃ ys : List Int, u1 = .int .i64 (q : Nat) ∧ Hid (ys.length + q = n) ∧ Hid (okS ys) ∧ Hid (Ft.Kf.R 24 w' w.heap.size (fun k => k ≠ b) v5 ys) ∧ Hid (St w w' b a len cap zs (h + 2 + 16 * (n - q))))
    case atStart => exact ⟨[], rfl, Lib.hid (by simp), Lib.hid (fun y hy => by cases hy), hR, Lib.hid (by have := SB.out; rwa [Nat.sub_self])⟩
    case round =>
      clear hR SB
      obtain ⟨ys, rfl, hlen, hok, hRL, SL⟩ := hrel
      cases gk with
      | zero =>
        have hl := hlen.out
        go_wp2
        go_ret
        exact ⟨_, ys, rfl, hRL.out, by omega, hok.out, SL.out.mono (by omega)⟩
      | succ q =>
        have hq := Lib.hid (show h + 2 + 16 * (n - (q + 1)) < 1099511627000 by have := hn.out; omega)
        have hw := down q (by have := hn.out; have := hlen.out; omega)
        have hpos : (0 : Int) < ((q + 1 : Nat) : Int) := by omega
        have hpos2 : ((q + 1 : Nat) : Int) > 0 := hpos
        go_wp2_with (first | (go_at_call 42; refine (float42 SL.out hq.out).mono ?_; rintro e w4 ⟨p, hp, rfl, s2⟩; have hR2 := Lib.hid (Kd.R_grown hRL.out s2.grown (fun k hk he => hk (Option.some.inj he))); have hfr2 := Lib.hid (fresh s2); have hsz2 := Lib.hid (size_le SL.out s2); have hl2 := Lib.hid (small ys hlen.out hn.out); have S2 := Lib.hid ((SL.out.tr s2).mono (hgt16 q n h hn.out hlen.out)); have hok2 := Lib.hid (okS_snoc hok.out hp); clear s2 hp) | ((with_reducible refine gate_builtin (b := .append) (xs := #[.tmp 15, .tmp 18]) rfl ?_); at_builtin; refine Kd.R_append Ft.Kf (w0 := w4) w.heap.size rfl (.tmp 15) (.tmp 18) 30 24 (.float .f32 0) 4 rfl Tryz.underlying30 info24 rfl (by decide) (by omega) u5 ys (p : Int) [.float .f32 p] (fun k => k ≠ b) (fun _ => False) rfl rfl rfl (fun _ hk => hk.elim) ?aF ?aO ?aR ?aB ?aL ?_; (case aR => exact Below.refl _ _); (case aF => exact hfr2.out); (case aO => exact hR2.out); (case aB => exact hsz2.out); (case aL => exact hl2.out); intro v6 w5 ho5 hb5 hg5 hat5; have S3 := Lib.hid (St.app S2.out hR2.out hbb.out hg5); have hR3 := Lib.hid ho5; clear ho5 hb5 hg5 hat5))
        go_roundg q
        case measure => omega
        case rel => exact ⟨ys ++ [_], congrArg (Value.int .i64) (wrapq q (by have := hn.out; have := hlen.out; omega)), Lib.hid (by have := hlen.out; simp; omega), hok2, hR3, S3⟩
theorem below_of {w w' : World} (g : w.grownBy w' (some w.heap.size)) : Below w.heap.size w w' := ⟨g.os, g.tape, g.output, g.size, fun k hk => g.block k hk (by simp; omega)⟩
theorem St.end_ {w w1 w2 : World} {a a' : Option Addr} {len len' cap cap' : Nat} {zs zs' : List Int} {h h' : Nat} (s : St w w1 w.heap.size a len cap zs h) (t : St w1 w2 w.heap.size a' len' cap' zs' h') : Below w.heap.size w w2 := below_of (s.grown.trans t.grown)
set_option maxRecDepth 100000 in
theorem number6 {a : Option Addr} {len cap : Nat} {zs : List Int} {w : World} (hr : IsRow .u8 w a len cap zs) :
    Calls Tryz.prog 6 #[.slice a len cap] w fun e w' => ∃ r : Nat, r < 4294967296 ∧ e = .returned (.float .f32 r) ∧ Below w.heap.size w w' := by
  have C := from38 hr
  go_enter Tryz.func6, Tryz.ntmps6
  go_wp2_with (go_at_call 38; refine C.mono ?_; rintro e w1 ⟨rfl, S1⟩)
  refine (one39 2 (by omega) (by omega) S1 (by omega)).mono ?_
  rintro e w2 ⟨y, rfl, S2⟩
  cases y
  · go_wp2_with (go_at_call 42; refine (float42 S2 (by omega)).mono ?_; rintro e w' ⟨p, hp, rfl, S3⟩)
    go_ret
    exact ⟨_, hp, rfl, S1.end_ (S2.tr S3)⟩
  · go_wp2_with (first | (go_at_call 40; refine (pick40 65536 (by omega) (by omega) S2 (by omega)).mono ?_; rintro e w' ⟨x3, hx3, hy3, rfl, S3⟩) | (go_at_call 40; refine (pick40 65536 (by omega) (by omega) S3 (by omega)).mono ?_; rintro e w' ⟨x4, hx4, hy4, rfl, S4⟩) | (go_at_call 41; refine (from41 _ _).mono ?_; rintro e w' ⟨q, hq, rfl, rfl⟩))
    go_ret
    exact ⟨_, hq, rfl, S1.end_ ((S2.tr S3).tr S4)⟩
theorem numbers10 (n : Nat) (hn0 : n ≤ 40) {a : Option Addr} {len cap : Nat} {zs : List Int} {w : World} (hr : IsRow .u8 w a len cap zs) :
    Calls Tryz.prog 10 #[.slice a len cap, .int .i64 n] w fun e w' => ∃ v ys, e = .returned v ∧ Ft.Kf.R 24 w' w.heap.size (fun _ => True) v ys ∧ ys.length = n ∧ okS ys ∧ Below w.heap.size w w' := by
  have C := from38 hr
  go_enter Tryz.func10, Tryz.ntmps10
  go_wp2_with (go_at_call 38; refine C.mono ?_; rintro e w1 ⟨rfl, S1⟩)
  refine (floats47 n hn0 S1 (by omega)).mono ?_
  rintro e w2 ⟨v, ys, rfl, hR, hl, hok, S2⟩
  go_wp2
  go_ret
  exact ⟨_, ys, rfl, Kd.R_lower (Kd.R_mono hR (fun _ _ => trivial)) (by have := S1.grown.size; omega), hl, hok, S1.end_ S2⟩
end Go.Proofs.YtpfjcfhgckpjmaaGreatDoor.Sr
