/- Phasors of 64ths of turns, their powers, products and angles: reckoned once and for all (tables that the kernel checks). -/
import Derived.Test.YtigcnipgmjmenaaP3
import Derived.Test.YtigcnipgmjmenaaG2
import Derived.Test.YtigcnipgmjmenaaEx
set_option exponentiation.threshold 3000
set_option maxRecDepth 100000
namespace Go.Proofs.Ytigcnipgmjmenaa.Ci
open Go.Fl Go.RowKit Ieee
def xTab : List Nat := [0, 4580160821035794432, 4584664420663164928, 4586916220476850176, 4589168020290535424, 4590293920197378048,
  4591419820104220672, 4592545720011063296, 4593671619917905920, 4594234569871327232, 4594797519824748544, 4595360469778169856,
  4595923419731591168, 4596486369685012480, 4597049319638433792, 4597612269591855104, 4598175219545276416, 4598456694521987072,
  4598738169498697728, 4599019644475408384, 4599301119452119040, 4599582594428829696, 4599864069405540352, 4600145544382251008,
  4600427019358961664, 4600708494335672320, 4600989969312382976, 4601271444289093632, 4601552919265804288, 4601834394242514944,
  4602115869219225600, 4602397344195936256, 4602678819172646912, 4602819556661002240, 4602960294149357568, 4603101031637712896,
  4603241769126068224, 4603382506614423552, 4603523244102778880, 4603663981591134208, 4603804719079489536, 4603945456567844864,
  4604086194056200192, 4604226931544555520, 4604367669032910848, 4604508406521266176, 4604649144009621504, 4604789881497976832,
  4604930618986332160, 4605071356474687488, 4605212093963042816, 4605352831451398144, 4605493568939753472, 4605634306428108800,
  4605775043916464128, 4605915781404819456, 4606056518893174784, 4606197256381530112, 4606337993869885440, 4606478731358240768,
  4606619468846596096, 4606760206334951424, 4606900943823306752, 4607041681311662080]
def prTab : List Nat := [1065353216, 1065272429, 1065030846, 1064630795, 1064076126, 1063372184, 1062525745, 1061544963, 1060439283, 1059219353, 1057896922, 1056004842,
  1053028117, 1049927729, 1044891074, 1036565814, 0, 3184049462, 3192374722, 3197411377, 3200511765, 3203488490, 3205380570, 3206703001,
  3207922931, 3209028611, 3210009393, 3210855832, 3211559774, 3212114443, 3212514494, 3212756077, 3212836864, 3212756077, 3212514494, 3212114443,
  3211559774, 3210855832, 3210009393, 3209028611, 3207922931, 3206703001, 3205380570, 3203488490, 3200511765, 3197411377, 3192374722, 3184049462,
  0, 1036565814, 1044891074, 1049927729, 1053028117, 1056004842, 1057896922, 1059219353, 1060439283, 1061544963, 1062525745, 1063372184,
  1064076126, 1064630795, 1065030846, 1065272429]
def piTab : List Nat := [0, 1036565814, 1044891074, 1049927729, 1053028117, 1056004842, 1057896922, 1059219353, 1060439283, 1061544963, 1062525745, 1063372184,
  1064076126, 1064630795, 1065030846, 1065272429, 1065353216, 1065272429, 1065030846, 1064630795, 1064076126, 1063372184, 1062525745, 1061544963,
  1060439283, 1059219353, 1057896922, 1056004842, 1053028117, 1049927729, 1044891074, 1036565814, 0, 3184049462, 3192374722, 3197411377,
  3200511765, 3203488490, 3205380570, 3206703001, 3207922931, 3209028611, 3210009393, 3210855832, 3211559774, 3212114443, 3212514494, 3212756077,
  3212836864, 3212756077, 3212514494, 3212114443, 3211559774, 3210855832, 3210009393, 3209028611, 3207922931, 3206703001, 3205380570, 3203488490,
  3200511765, 3197411377, 3192374722, 3184049462]
def pwTab : List Nat := [1065353216, 1065353216, 1065353215, 1065353216, 1065353215, 1065353216, 1065353216, 1065353215, 1065353215, 1065353215, 1065353216, 1065353216,
  1065353215, 1065353216, 1065353215, 1065353216, 1065353216, 1065353216, 1065353215, 1065353216, 1065353215, 1065353216, 1065353216, 1065353215,
  1065353215, 1065353215, 1065353216, 1065353216, 1065353215, 1065353216, 1065353215, 1065353216, 1065353216, 1065353216, 1065353215, 1065353216,
  1065353215, 1065353216, 1065353216, 1065353215, 1065353215, 1065353215, 1065353216, 1065353216, 1065353215, 1065353216, 1065353215, 1065353216,
  1065353216, 1065353216, 1065353215, 1065353216, 1065353215, 1065353216, 1065353216, 1065353215, 1065353215, 1065353215, 1065353216, 1065353216,
  1065353215, 1065353216, 1065353215, 1065353216]
def anTab : List Nat := [0, 1015021568, 1023410176, 1027604479, 1031798784, 1033895936, 1035993088, 1038090240, 1040187392, 1041235968, 1042284544, 1043333120,
  1044381696, 1045430272, 1046478848, 1047527424, 1048576000, 1049100288, 1049624576, 1050148864, 1050673152, 1051197440, 1051721728, 1052246016,
  1052770304, 1053294592, 1053818880, 1054343168, 1054867456, 1055391744, 1055916032, 1056440320, 1056964608, 3203923968, 3203399680, 3202875392,
  3202351104, 3201826816, 3201302528, 3200778240, 3200253952, 3199729664, 3199205376, 3198681088, 3198156800, 3197632512, 3197108224, 3196583936,
  3196059648, 3195011072, 3193962496, 3192913920, 3191865344, 3190816768, 3189768192, 3188719616, 3187671040, 3185573888, 3183476736, 3181379584,
  3179282432, 3175088127, 3170893824, 3162505216]
def xT (k : Nat) : Nat := xTab.getD k 0
def prT (k : Nat) : Nat := prTab.getD k 0
def piT (k : Nat) : Nat := piTab.getD k 0
def pwT (k : Nat) : Nat := pwTab.getD k 0
def anT (k : Nat) : Nat := anTab.getD k 0
/-- a/64 for a from -256 on. -/
def xq (z : Nat) : Option Nat := fop .quo .f64 (some (floatOfInt .f64 ((z : Int) - 256))) (some 4634204016564240384)
def fracOk (z : Nat) : Bool :=
  match xq z with
  | some x => decide (x < 18446744073709551616) && decide (double.rungOf x < double.infRung) && !bigB x && (fracV x == fracV (xT (z % 64)))
  | none => false
theorem fracAll : ∀ z : Nat, z < 512 → fracOk z = true := by decide +kernel
theorem xT_ok : ∀ k : Nat, k < 64 → double.rungOf (xT k) < double.infRung ∧ bigB (xT k) = false := by decide +kernel
theorem phAll : ∀ k : Nat, k < 64 → (phR (xT k) == some (prT k) && phI (xT k) == some (piT k)) = true := by decide +kernel
theorem ph_frac {x y : Nat} (hx : double.rungOf x < double.infRung) (hy : double.rungOf y < double.infRung) (bx : bigB x = false) (by_ : bigB y = false) (h : fracV x = fracV y) : phR x = phR y ∧ phI x = phI y := by
  unfold phR phI phC phS phQ
  refine ⟨?_, ?_⟩ <;> rw [if_pos hx, if_pos hy, bx, by_, h]
theorem ph_is (z : Nat) (h : z < 512) : ∃ x, xq z = some x ∧ x < 18446744073709551616 ∧ phR x = some (prT (z % 64)) ∧ phI x = some (piT (z % 64)) := by
  have hf := fracAll z h
  unfold fracOk at hf
  cases hx : xq z with
  | none => rw [hx] at hf; cases hf
  | some x =>
    rw [hx] at hf
    simp only [Bool.and_eq_true, decide_eq_true_eq, Bool.not_eq_true', beq_iff_eq] at hf
    obtain ⟨⟨⟨h1, h2⟩, h3⟩, h4⟩ := hf
    have hk : z % 64 < 64 := Nat.mod_lt _ (by decide)
    obtain ⟨g1, g2⟩ := xT_ok (z % 64) hk
    obtain ⟨e1, e2⟩ := ph_frac h2 g1 h3 g2 h4
    have hp := phAll (z % 64) hk
    simp only [Bool.and_eq_true, beq_iff_eq] at hp
    exact ⟨x, rfl, h1, e1.trans hp.1, e2.trans hp.2⟩
theorem p_ok : ∀ k : Nat, k < 64 → (single.nan (prT k) = false ∧ prT k < 4294967296 ∧ single.rungOf (prT k) < single.infRung) ∧ single.nan (piT k) = false ∧ piT k < 4294967296 ∧ single.rungOf (piT k) < single.infRung := by decide +kernel
/-- A double narrowed, where it is not too great. -/
def nw (v : Option Nat) : Option Nat :=
  match v with
  | some b => if (single.read (single.write (double.read b))).isInfinity then none else some (single.write (double.read b))
  | none => none
theorem nw_ok {v : Option Nat} {m : Nat} (h : nw v = some m) : NarrowOk v ∧ narrow v = some m := by
  cases v with
  | none => cases h
  | some b =>
    unfold nw at h
    by_cases c : (single.read (single.write (double.read b))).isInfinity = true
    · simp only [c, if_true] at h; cases h
    · have c' : (single.read (single.write (double.read b))).isInfinity = false := by simpa using c
      simp only [c', Bool.false_eq_true, if_false] at h
      exact ⟨narrow_const (.inl c'), h⟩
def w64 (k : Nat) : Option Nat := some (wideN k)
def pwV (a b : Nat) : Option Nat := fop .add .f64 (fop .mul .f64 (w64 a) (w64 a)) (fop .mul .f64 (w64 b) (w64 b))
theorem pwAll : ∀ k : Nat, k < 64 → (nw (pwV (prT k) (piT k)) == some (pwT k) && !cmpV .gtr .f64 (gapV (w64 (pwT k)) (some c1)) (some 4547007122018943789)) = true := by decide +kernel
def uV (a b c d : Nat) : Option Nat := fop .sub .f64 (fop .mul .f64 (w64 a) (w64 c)) (fop .mul .f64 (w64 b) (w64 d))
def vV (a b c d : Nat) : Option Nat := fop .add .f64 (fop .mul .f64 (w64 a) (w64 d)) (fop .mul .f64 (w64 b) (w64 c))
def nearB (m r : Nat) : Bool := cmpV .leq .f64 (gapV (w64 m) (w64 r)) (some 4547007122018943789)
def mulOk (i j : Nat) : Bool :=
  match nw (uV (prT i) (piT i) (prT j) (piT j)), nw (vV (prT i) (piT i) (prT j) (piT j)) with
  | some m, some n => nearB m (prT ((i + j) % 64)) && nearB n (piT ((i + j) % 64))
  | _, _ => false
theorem angAll : ∀ k : Nat, k < 64 → (angS (piT k) (prT k) == some (anT k)) = true := by decide +kernel
theorem angI : angS 1065353216 0 = some 1048576000 := by decide +kernel
def trV (z : Nat) : Option Nat := fop .sub .f64 (fop .mul .f64 (w64 (anT (z % 64))) (some 4634204016564240384)) (some (floatOfInt .f64 ((z : Int) - 128)))
def trOk (z : Nat) : Bool :=
  match fop .add .f64 (trV z) (some 4666723447345250304) with
  | some u => match floatToIntVal .f64 u .i64 with
    | some n => decide (u < 18446744073709551616) && decide (-1000000 < n) && decide (n < 1000000) && decide (Int.tmod (n - 10000) 64 = 0) && !cmpV .gtr .f64 (gapV (trV z) (some (floatOfInt .f64 (n - 10000)))) (some 4562254508917369340)
    | none => false
  | none => false
theorem trAll : ∀ z : Nat, z < 256 → trOk z = true := by decide +kernel
def reG (k : Nat) : Option Nat := gapV (w64 (prT k)) (some 0)
theorem reAll : ∀ j : Nat, j < 4 → (cmpV .neq .f64 (reG (16 * j)) (some 0) && cmpV .neq .f64 (reG (16 * j)) (some c1)) = false := by decide +kernel
end Go.Proofs.Ytigcnipgmjmenaa.Ci
