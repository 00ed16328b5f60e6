/- Floats: a number that is no number stays none, and all else is as it stands. Conditions: those that each lemma names. -/
import Derived.Test.YtmmdjajebmihhaaA3
namespace Go.Proofs.Ytmmdjajebmihhaa.AM
open Go
set_option linter.unusedVariables false

theorem isNaN_iff (k : FloatKind) (b : Nat) : isNaN k b = true ↔ k.format.infRung < b % k.format.signWeight := by
  unfold isNaN FloatKind.decode Ieee.Format.read
  have hb : k.format.binade ≤ k.format.infRung := by cases k <;> decide
  constructor
  · intro h
    dsimp only at h
    split at h
    · simp [Ieee.Datum.isNaN] at h
    · split at h
      · simp [Ieee.Datum.isNaN] at h
      · split at h
        · simp [Ieee.Datum.isNaN] at h
        · omega
  · intro h
    dsimp only
    rw [if_neg (by omega), if_neg (by omega), if_neg (by omega)]
    rfl

theorem decode_nan {k : FloatKind} {b : Nat} (h : isNaN k b = true) : ∃ s f, k.format.read b = .nan s f := by
  unfold isNaN FloatKind.decode at h
  cases hr : k.format.read b with
  | nan s f => exact ⟨s, f, rfl⟩
  | number s m e => rw [hr] at h; simp [Ieee.Datum.isNaN] at h
  | infinity s => rw [hr] at h; simp [Ieee.Datum.isNaN] at h

theorem isNaN_qn (k : FloatKind) : isNaN k (qn k) = true := by cases k <;> decide

theorem nan_cut32 (t : Nat) : isNaN .f32 (t % 2 * 2 ^ 31 + 2139095040 + 1 + t / 2 % (2 ^ 23 - 1)) = true := by
  rw [isNaN_iff]
  have h1 : FloatKind.f32.format.infRung = 2139095040 := by decide
  have h2 : FloatKind.f32.format.signWeight = 2147483648 := by decide
  rw [h1, h2]
  have := Nat.mod_lt (t / 2) (show 0 < 2 ^ 23 - 1 by decide)
  have h0 : t % 2 < 2 := Nat.mod_lt _ (by decide)
  generalize t / 2 % (2 ^ 23 - 1) = x at *
  generalize t % 2 = a at *
  have : a * 2 ^ 31 + 2139095040 + 1 + x = 2139095041 + x + 2147483648 * a := by omega
  rw [this, Nat.add_mul_mod_self_left]
  omega
theorem nan_cut64 (t : Nat) : isNaN .f64 (t % 2 * 2 ^ 63 + 9218868437227405312 + 1 + t / 2 % (2 ^ 52 - 1)) = true := by
  rw [isNaN_iff]
  have h1 : FloatKind.f64.format.infRung = 9218868437227405312 := by decide
  have h2 : FloatKind.f64.format.signWeight = 9223372036854775808 := by decide
  rw [h1, h2]
  have := Nat.mod_lt (t / 2) (show 0 < 2 ^ 52 - 1 by decide)
  have h0 : t % 2 < 2 := Nat.mod_lt _ (by decide)
  generalize t / 2 % (2 ^ 52 - 1) = x at *
  generalize t % 2 = a at *
  have : a * 2 ^ 63 + 9218868437227405312 + 1 + x = 9218868437227405313 + x + 9223372036854775808 * a := by omega
  rw [this, Nat.add_mul_mod_self_left]
  omega

theorem drawn_still (w : World) : Still w { w with drawn := w.drawn + 1 } := ⟨rfl, rfl, rfl, rfl⟩

theorem run_nanBits (P : Program) (k : FloatKind) (a b : Nat) (w : World) : ∃ r w', (choose (.nanBits k a b)).run P w = .ok r w' ∧ Still w w' ∧ isNaN k r = true := by
  refine ⟨_, _, by simp only [run_choose, Question.forced]; rfl, drawn_still w, ?_⟩
  cases k
  · exact nan_cut32 _
  · exact nan_cut64 _
theorem run_nanConv (P : Program) (k : FloatKind) (a : Nat) (w : World) : ∃ r w', (choose (.nanConv k a)).run P w = .ok r w' ∧ Still w w' ∧ isNaN k r = true := by
  refine ⟨_, _, by simp only [run_choose, Question.forced]; rfl, drawn_still w, ?_⟩
  cases k
  · exact nan_cut32 _
  · exact nan_cut64 _

theorem FEq.nan_left {k : FloatKind} {a a' : Nat} (h : FEq k a a') (hn : isNaN k a = true) : isNaN k a' = true := by
  rcases h with rfl | ⟨_, h⟩
  · exact hn
  · exact h

/-- The four operations, as a partial function on words. -/
def fop (op : BinOp) (k : FloatKind) (a b : Nat) : Option Nat := match op with
  | .add => k.format.add a b
  | .sub => k.format.sub a b
  | .mul => k.format.mul a b
  | _ => k.format.div a b

theorem farith_eq (op : BinOp) (k : FloatKind) (a b : Nat) : farith op k a b = (fop op k a b).getD (qn k) := by cases op <;> rfl

theorem fop_nan_left {op : BinOp} {k : FloatKind} {a b : Nat} (h : isNaN k a = true) : fop op k a b = none := by
  obtain ⟨s, f, hr⟩ := decode_nan h
  cases op <;> simp [fop, Ieee.Format.add, Ieee.Format.sub, Ieee.Format.mul, Ieee.Format.div, hr, Ieee.Datum.sum, Ieee.Datum.product, Ieee.Datum.quotient]

theorem fop_nan_right {op : BinOp} {k : FloatKind} {a b : Nat} (h : isNaN k b = true) : fop op k a b = none := by
  obtain ⟨s, f, hr⟩ := decode_nan h
  cases op <;> simp only [fop, Ieee.Format.add, Ieee.Format.sub, Ieee.Format.mul, Ieee.Format.div, hr, Ieee.Datum.opposite] <;>
    cases k.format.read a <;> rfl

theorem fop_congr {op : BinOp} {k : FloatKind} {a a' b b' : Nat} (ha : FEq k a a') (hb : FEq k b b') : fop op k a' b' = fop op k a b := by
  rcases ha with rfl | ⟨h1, h2⟩
  · rcases hb with rfl | ⟨h3, h4⟩
    · rfl
    · rw [fop_nan_right h3, fop_nan_right h4]
  · rw [fop_nan_left h1, fop_nan_left h2]

theorem run_floatArith' (P : Program) (op : BinOp) (hop : op = .add ∨ op = .sub ∨ op = .mul ∨ op = .quo) (k : FloatKind) (a b : Nat) (w : World) :
    ∃ r w', (Op.floatArith op k a b).run P w = .ok (.float k r) w' ∧ Still w w' ∧ (fop op k a b = some r ∨ (fop op k a b = none ∧ isNaN k r = true)) := by
  obtain ⟨r, w', h1, h2, h3⟩ := run_nanBits P k a b w
  rcases hop with rfl | rfl | rfl | rfl
  · cases hf : k.format.add a b with
    | some r => exact ⟨r, w, by simp [Op.floatArith, hf], Still.refl w, .inl hf⟩
    | none => exact ⟨r, w', by simp only [Op.floatArith, hf, pure_bind, Sem.run_bind, h1, Result.andThen_ok, Sem.run_pure], h2, .inr ⟨hf, h3⟩⟩
  · cases hf : k.format.sub a b with
    | some r => exact ⟨r, w, by simp [Op.floatArith, hf], Still.refl w, .inl hf⟩
    | none => exact ⟨r, w', by simp only [Op.floatArith, hf, pure_bind, Sem.run_bind, h1, Result.andThen_ok, Sem.run_pure], h2, .inr ⟨hf, h3⟩⟩
  · cases hf : k.format.mul a b with
    | some r => exact ⟨r, w, by simp [Op.floatArith, hf], Still.refl w, .inl hf⟩
    | none => exact ⟨r, w', by simp only [Op.floatArith, hf, pure_bind, Sem.run_bind, h1, Result.andThen_ok, Sem.run_pure], h2, .inr ⟨hf, h3⟩⟩
  · cases hf : k.format.div a b with
    | some r => exact ⟨r, w, by simp [Op.floatArith, hf], Still.refl w, .inl hf⟩
    | none => exact ⟨r, w', by simp only [Op.floatArith, hf, pure_bind, Sem.run_bind, h1, Result.andThen_ok, Sem.run_pure], h2, .inr ⟨hf, h3⟩⟩

theorem run_farith (P : Program) (op : BinOp) (hop : op = .add ∨ op = .sub ∨ op = .mul ∨ op = .quo) (k : FloatKind) {a a' b b' : Nat} (ha : FEq k a a') (hb : FEq k b b') (w : World) :
    ∃ r w', (Op.floatArith op k a' b').run P w = .ok (.float k r) w' ∧ Still w w' ∧ FEq k (farith op k a b) r := by
  obtain ⟨r, w', h1, h2, h3⟩ := run_floatArith' P op hop k a' b' w
  refine ⟨r, w', h1, h2, ?_⟩
  rw [farith_eq, ← fop_congr ha hb]
  rcases h3 with h3 | ⟨h3, h4⟩
  · rw [h3]; exact .inl rfl
  · rw [h3]; exact .inr ⟨isNaN_qn k, h4⟩

theorem order_nan_left {k : FloatKind} {a b : Nat} (h : isNaN k a = true) : k.format.order a b = none := by
  obtain ⟨s, f, hr⟩ := decode_nan h
  simp [Ieee.Format.order, hr, Ieee.Datum.order]
theorem order_nan_right {k : FloatKind} {a b : Nat} (h : isNaN k b = true) : k.format.order a b = none := by
  obtain ⟨s, f, hr⟩ := decode_nan h
  simp only [Ieee.Format.order, hr]
  cases k.format.read a <;> rfl
theorem order_congr {k : FloatKind} {a a' b b' : Nat} (ha : FEq k a a') (hb : FEq k b b') : k.format.order a' b' = k.format.order a b := by
  rcases ha with rfl | ⟨h1, h2⟩
  · rcases hb with rfl | ⟨h3, h4⟩
    · rfl
    · rw [order_nan_right h3, order_nan_right h4]
  · rw [order_nan_left h1, order_nan_left h2]

theorem fneg_nan {k : FloatKind} {a : Nat} (h : isNaN k a = true) : isNaN k (fneg k a) = true := by
  rw [isNaN_iff] at h ⊢
  have : fneg k a % k.format.signWeight = a % k.format.signWeight := by
    unfold fneg Ieee.Format.signWeight
    rw [Nat.xor_mod_two_pow]
    simp
  rw [this]; exact h
theorem fneg_congr {k : FloatKind} {a a' : Nat} (h : FEq k a a') : FEq k (fneg k a) (fneg k a') := by
  rcases h with rfl | ⟨h1, h2⟩
  · exact .inl rfl
  · exact .inr ⟨fneg_nan h1, fneg_nan h2⟩

theorem toInt_congr {k : FloatKind} {a a' : Nat} (h : FEq k a a') : Ieee.Datum.toInt .zero (k.decode a') = Ieee.Datum.toInt .zero (k.decode a) := by
  rcases h with rfl | ⟨h1, h2⟩
  · rfl
  · obtain ⟨s, f, hr⟩ := decode_nan h1
    obtain ⟨s', f', hr'⟩ := decode_nan h2
    unfold FloatKind.decode
    rw [hr, hr']
    rfl

/-! ### Singles are doubles -/

theorem log2_lt' {m n : Nat} (h : m < 2 ^ (n + 1)) (h0 : 0 < m) : m.log2 ≤ n := by
  have := Nat.log2_lt (n := m) (k := n + 1) (by omega)
  omega

theorem cut_zero (neg : Bool) (n : Nat) : Ieee.Toward.even.cut neg n 0 = n := by
  unfold Ieee.Toward.cut
  simp [Nat.mod_one]

/-- A single's number is a double's: its word lies below infinity's. -/
theorem wide_rung (s : Bool) (m : Nat) (e : Int) (hm : m < 2 ^ 24) (h0 : 0 < m) (he : -149 ≤ e) (he' : e ≤ 104) :
    ∃ r, Ieee.double.nearest s m e = Ieee.double.word s r ∧ r < Ieee.double.infRung := by
  have hl : m.log2 ≤ 23 := log2_lt' hm h0
  have hlast : max (e + m.log2 - Ieee.double.fractionBits) Ieee.double.leastPlace = e + m.log2 - 52 := by
    have : Ieee.double.leastPlace = -1074 := by decide
    have h2 : (Ieee.double.fractionBits : Int) = 52 := by decide
    rw [this, h2]
    omega
  have hkept : m <<< (52 - m.log2) < 2 ^ 53 := by
    rw [Nat.shiftLeft_eq]
    have h1 : m < 2 ^ (m.log2 + 1) := Nat.lt_log2_self
    calc m * 2 ^ (52 - m.log2) < 2 ^ (m.log2 + 1) * 2 ^ (52 - m.log2) := Nat.mul_lt_mul_of_pos_right h1 (Nat.two_pow_pos _)
      _ = 2 ^ 53 := by rw [← Nat.pow_add]; congr 1; omega
  refine ⟨(e + m.log2 - 52 + 1074).toNat * 2 ^ 52 + m <<< (52 - m.log2), ?_, ?_⟩
  · unfold Ieee.Format.nearest
    rw [if_neg (by omega)]
    dsimp only
    rw [hlast]
    have h1 : (e - (e + (m.log2 : Int) - 52)).toNat = 52 - m.log2 := by omega
    have h2 : (e + (m.log2 : Int) - 52 - e).toNat = 0 := by omega
    have h3 : Ieee.double.leastPlace = -1074 := by decide
    have h4 : Ieee.double.binade = 2 ^ 52 := by decide
    have h5 : Ieee.double.infRung = 2047 * 2 ^ 52 := by decide
    rw [h1, h2, cut_zero, h3, h4, h5]
    congr 1
    have : (e + (m.log2 : Int) - 52 - -1074).toNat ≤ 1149 := by omega
    have h6 : (e + (m.log2 : Int) - 52 - -1074) = e + (m.log2 : Int) - 52 + 1074 := by omega
    rw [h6] at this ⊢
    apply Nat.min_eq_left
    omega
  · have h5 : Ieee.double.infRung = 2047 * 2 ^ 52 := by decide
    rw [h5]
    have : (e + (m.log2 : Int) - 52 + 1074).toNat ≤ 1149 := by omega
    omega

theorem word_notInf (s : Bool) (r : Nat) (h : r < Ieee.double.infRung) : (FloatKind.f64.decode (Ieee.double.word s r)).isInfinity = false := by
  have h1 : Ieee.double.signWeight = 2 ^ 63 := by decide
  have h2 : Ieee.double.infRung = 2047 * 2 ^ 52 := by decide
  have hr : Ieee.double.word s r % Ieee.double.signWeight = r := by
    unfold Ieee.Format.word
    rw [h1]
    split <;> omega
  unfold FloatKind.decode
  show (Ieee.double.read (Ieee.double.word s r)).isInfinity = false
  unfold Ieee.Format.read
  dsimp only
  rw [hr]
  split
  · rfl
  · first | rfl | (rw [if_pos h]; rfl)

theorem single_number {b : Nat} {s : Bool} {m : Nat} {e : Int} (h : FloatKind.f32.decode b = .number s m e) : m < 2 ^ 24 ∧ -149 ≤ e ∧ e ≤ 104 := by
  have h1 : Ieee.single.signWeight = 2 ^ 31 := by decide
  have h2 : Ieee.single.infRung = 255 * 2 ^ 23 := by decide
  have h3 : Ieee.single.binade = 2 ^ 23 := by decide
  have h4 : Ieee.single.leastPlace = -149 := by decide
  have h5 : Ieee.single.fractionBits = 23 := by decide
  change Ieee.single.read b = _ at h
  unfold Ieee.Format.read at h
  dsimp only at h
  rw [h1, h2, h3, h4] at h
  split at h
  · cases h; omega
  · split at h
    · cases h
      have : b % 2 ^ 31 % 2 ^ 23 < 2 ^ 23 := Nat.mod_lt _ (by decide)
      have h6 : b % 2 ^ 31 / 2 ^ 23 - 1 ≤ 253 := by omega
      refine ⟨by omega, by omega, by omega⟩
    · split at h <;> cases h

theorem widen_fits {b : Nat} {s : Bool} {m : Nat} {e : Int} (h : FloatKind.f32.decode b = .number s m e) : (FloatKind.f64.decode (FloatKind.f64.encode (.number s m e))).isInfinity = false := by
  obtain ⟨hm, he, he'⟩ := single_number h
  by_cases h0 : m = 0
  · subst h0
    show (FloatKind.f64.decode (Ieee.double.nearest s 0 e)).isInfinity = false
    unfold Ieee.Format.nearest
    rw [if_pos rfl]
    exact word_notInf s 0 (by decide)
  · obtain ⟨r, hr, hlt⟩ := wide_rung s m e hm (by omega) he he'
    show (FloatKind.f64.decode (Ieee.double.nearest s m e)).isInfinity = false
    rw [hr]
    exact word_notInf s r hlt

theorem run_floatToFloat' (P : Program) (s d : FloatKind) {a a' : Nat} (h : FEq s a a') (hok : (convF s d a).1 = true) (w : World) :
    ∃ r w', (Conv.floatToFloat s a' d).run P w = .ok (.float d r) w' ∧ Still w w' ∧ FEq d (convF s d a).2 r := by
  by_cases hsd : s = d
  · subst hsd
    refine ⟨a', w, by simp [Conv.floatToFloat], Still.refl w, ?_⟩
    cases s <;> exact h
  · have hv : (convF s d a).2 = refloat s d a := by cases s <;> cases d <;> first | exact absurd rfl hsd | rfl
    rw [hv]
    rcases h with rfl | ⟨h1, h2⟩
    · unfold Conv.floatToFloat refloat
      rw [if_neg hsd]
      cases hdec : s.decode a with
      | nan sg f =>
        obtain ⟨r, w', h1, h2, h3⟩ := run_nanConv P d a w
        exact ⟨r, w', by simp only [Sem.run_bind, h1, Result.andThen_ok, Sem.run_pure], h2, .inr ⟨isNaN_qn d, h3⟩⟩
      | infinity sg => exact ⟨_, w, by simp, Still.refl w, .inl rfl⟩
      | number sg m e =>
        have hinf : (d.decode (d.encode (.number sg m e))).isInfinity = false := by
          cases s <;> cases d <;> first | exact absurd rfl hsd | skip
          · exact widen_fits hdec
          · simp only [convF, narrowOk, hdec, Bool.not_eq_true'] at hok
            exact hok
        exact ⟨_, w, by simp [hinf], Still.refl w, .inl rfl⟩
    · obtain ⟨sg, f, hr⟩ := decode_nan h1
      obtain ⟨sg', f', hr'⟩ := decode_nan h2
      unfold Conv.floatToFloat refloat FloatKind.decode
      rw [if_neg hsd, hr, hr']
      obtain ⟨r, w', h1, h2, h3⟩ := run_nanConv P d a' w
      exact ⟨r, w', by simp only [Sem.run_bind, h1, Result.andThen_ok, Sem.run_pure], h2, .inr ⟨isNaN_qn d, h3⟩⟩

theorem run_floatToInt' (P : Program) (s : FloatKind) (d : IntKind) {a a' : Nat} (h : FEq s a a') (hok : f2iOk s a d = true) (w : World) :
    (Conv.floatToInt s a' d).run P w = .ok (.int d (f2i s a)) w := by
  unfold Conv.floatToInt
  rw [toInt_congr h]
  unfold f2iOk at hok
  unfold f2i
  split at hok
  · rename_i n hn
    simp only [Bool.and_eq_true, decide_eq_true_eq] at hok
    simp [hn, hok]
  · cases hok

end Go.Proofs.Ytmmdjajebmihhaa.AM
