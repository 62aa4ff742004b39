import Derived.Test.YtipgdmaagiijmaaF20
set_option linter.unusedVariables false
set_option linter.unusedSimpArgs false
namespace Go.SX
open Ieee
/-! ### rounding from below; what a valid mode's numbers are at most -/
theorem cut_ge {n c d : Nat} (neg : Bool) (h : c * 2 ^ d ≤ n) : c ≤ Toward.even.cut neg n d := by
  unfold Toward.cut
  simp only [Nat.one_shiftLeft]
  have hp : 0 < 2 ^ min d (n.log2 + 2) := Nat.two_pow_pos _
  have hle : c * 2 ^ min d (n.log2 + 2) ≤ n := Nat.le_trans (Nat.mul_le_mul_left _ (Nat.pow_le_pow_right (by decide) (Nat.min_le_left _ _))) h
  have := (Nat.le_div_iff_mul_le hp).2 hle
  generalize ((_ || _ : Bool)) = m
  cases m <;> simp <;> omega
theorem nearest_ge {f : Format} {mag : Nat} {place : Int} {k j : Nat} (neg : Bool) (hk : 1 ≤ k) (hj : j < f.binade)
    (h : (f.binade + j) * 2 ^ (k - 1) * 2 ^ (f.leastPlace - place).toNat ≤ mag * 2 ^ (place - f.leastPlace).toNat) : ∃ r, f.nearest neg mag place = f.word neg r ∧ r < f.signWeight ∧ min (k * f.binade + j) f.infRung ≤ r := by
  have hb : 0 < f.binade := Nat.two_pow_pos _
  have hsw : f.infRung < f.signWeight := f.infRung_lt
  have h0 : mag ≠ 0 := by
    intro h0
    subst h0
    rw [Nat.zero_mul] at h
    have : 0 < (f.binade + j) * 2 ^ (k - 1) * 2 ^ (f.leastPlace - place).toNat := Nat.mul_pos (Nat.mul_pos (by omega) (Nat.two_pow_pos _)) (Nat.two_pow_pos _)
    omega
  unfold Format.nearest
  rw [if_neg h0]
  simp only
  refine ⟨_, rfl, by omega, ?_⟩
  suffices hs : k * f.binade + j ≤ (max (place + (mag.log2 : Int) - f.fractionBits) f.leastPlace - f.leastPlace).toNat * f.binade + Toward.even.cut neg (mag <<< (place - max (place + (mag.log2 : Int) - f.fractionBits) f.leastPlace).toNat) (max (place + (mag.log2 : Int) - f.fractionBits) f.leastPlace - place).toNat by omega
  have hl1 : 2 ^ mag.log2 ≤ mag := Nat.log2_self_le h0
  have hl2 : mag < 2 ^ (mag.log2 + 1) := Nat.lt_log2_self
  generalize mag.log2 = l at hl1 hl2
  have hbd : f.binade = 2 ^ f.fractionBits := rfl
  rw [hbd] at h hj ⊢
  generalize f.leastPlace = lp at h ⊢
  generalize f.fractionBits = fb at h hj ⊢
  have hq : fb + (k - 1) + (lp - place).toNat ≤ l + (place - lp).toNat := by
    have h1 : 2 ^ (fb + (k - 1) + (lp - place).toNat) < 2 ^ (l + 1 + (place - lp).toNat) := by
      rw [Nat.pow_add, Nat.pow_add, Nat.pow_add 2 (l + 1)]
      refine Nat.lt_of_le_of_lt (Nat.le_trans (Nat.mul_le_mul_right _ (Nat.mul_le_mul_right _ (Nat.le_add_right _ j))) h) ?_
      exact Nat.mul_lt_mul_of_pos_right hl2 (Nat.two_pow_pos _)
    have := (Nat.pow_lt_pow_iff_right (by decide)).1 h1
    omega
  rw [Int.max_eq_left (by omega)]
  have hc : 2 ^ fb ≤ Toward.even.cut neg (mag <<< (place - (place + (l : Int) - fb)).toNat) ((place + (l : Int) - fb) - place).toNat := by
    refine cut_ge neg ?_
    rw [Nat.shiftLeft_eq, ← Nat.pow_add]
    refine Nat.le_trans ?_ (Nat.mul_le_mul_right _ hl1)
    rw [← Nat.pow_add]
    exact Nat.pow_le_pow_right (by decide) (by omega)
  rcases Nat.lt_or_ge (fb + (k - 1) + (lp - place).toNat) (l + (place - lp).toNat) with hlt | hge
  · have h1 : k ≤ (place + (l : Int) - fb - lp).toNat := by omega
    have h2 := Nat.mul_le_mul_right (2 ^ fb) h1
    omega
  · have hc2 : 2 ^ fb + j ≤ Toward.even.cut neg (mag <<< (place - (place + (l : Int) - fb)).toNat) ((place + (l : Int) - fb) - place).toNat := by
      refine cut_ge neg ?_
      rw [Nat.shiftLeft_eq]
      refine Nat.le_of_mul_le_mul_right (c := 2 ^ (place - lp).toNat * 2 ^ ((fb : Int) - l).toNat) ?_ (Nat.mul_pos (Nat.two_pow_pos _) (Nat.two_pow_pos _))
      have e1 : (2 ^ fb + j) * 2 ^ ((place + (l : Int) - fb) - place).toNat * (2 ^ (place - lp).toNat * 2 ^ ((fb : Int) - l).toNat) = (2 ^ fb + j) * 2 ^ (k - 1) * 2 ^ (lp - place).toNat * 2 ^ (2 * ((fb : Int) - l).toNat) := by
        simp only [Nat.mul_assoc, ← Nat.pow_add]
        congr 2
        omega
      have e2 : mag * 2 ^ (place - (place + (l : Int) - fb)).toNat * (2 ^ (place - lp).toNat * 2 ^ ((fb : Int) - l).toNat) = mag * 2 ^ (place - lp).toNat * 2 ^ (2 * ((fb : Int) - l).toNat) := by
        simp only [Nat.mul_assoc, ← Nat.pow_add]
        congr 2
        omega
      rw [e1, e2]
      exact Nat.mul_le_mul_right _ h
    have h1 : (place + (l : Int) - fb - lp).toNat = k - 1 := by omega
    rw [h1]
    have h3 : k * 2 ^ fb = (k - 1) * 2 ^ fb + 2 ^ fb := by
      rw [← Nat.succ_mul]
      congr 1
      omega
    omega
theorem read_ge {f : Format} {x k j : Nat} {s m p} (h : f.read x = .number s m p) (hk : 1 ≤ k) (hj : j < f.binade) (hr : k * f.binade + j ≤ x % f.signWeight) : (f.binade + j) * 2 ^ (k - 1) ≤ m * 2 ^ (p - f.leastPlace).toNat := by
  have hb : 0 < f.binade := Nat.two_pow_pos _
  unfold Format.read at h
  simp only at h
  generalize x % f.signWeight = r at h hr
  have hbk : f.binade ≤ k * f.binade := Nat.le_mul_of_pos_left _ (by omega)
  rw [if_neg (by omega)] at h
  split at h
  · cases h
    rw [show (f.leastPlace + ((r / f.binade - 1 : Nat) : Int) - f.leastPlace).toNat = r / f.binade - 1 by omega]
    have hrq := Nat.div_add_mod r f.binade
    have hm : r % f.binade < f.binade := Nat.mod_lt _ hb
    have hq : k ≤ r / f.binade := (Nat.le_div_iff_mul_le hb).2 (by omega)
    rcases Nat.lt_or_ge k (r / f.binade) with hlt | hge
    · have e1 : 2 ^ (r / f.binade - 1) = 2 ^ (r / f.binade - 1 - k) * 2 ^ k := by
        rw [← Nat.pow_add]; congr 1; omega
      have e2 : 2 ^ k = 2 ^ (k - 1) * 2 := by
        rw [← Nat.pow_succ]; congr 1; omega
      calc (f.binade + j) * 2 ^ (k - 1) ≤ (f.binade + f.binade) * 2 ^ (k - 1) := Nat.mul_le_mul_right _ (by omega)
        _ = f.binade * 2 ^ k := by rw [e2, ← Nat.two_mul]; ac_rfl
        _ ≤ f.binade * 2 ^ (r / f.binade - 1) := Nat.mul_le_mul_left _ (Nat.pow_le_pow_right (by decide) (by omega))
        _ ≤ _ := Nat.mul_le_mul_right _ (by omega)
    · have e0 : r / f.binade = k := by omega
      rw [e0]
      rw [e0, Nat.mul_comm] at hrq
      exact Nat.mul_le_mul_right _ (by omega)
  · split at h <;> cases h
theorem word_f (f : Format) (r : Nat) : f.word false r = r := rfl
theorem sw64 : double.signWeight = 2 ^ 63 := by decide
theorem inf64 : double.infRung = 2047 * 2 ^ 52 := by decide
theorem bin64 : double.binade = 2 ^ 52 := by decide
theorem bin32 : single.binade = 2 ^ 23 := by decide
theorem sw32 : single.signWeight = 2 ^ 31 := by decide
theorem lp64 : double.leastPlace = -1074 := by decide
theorem lp32 : single.leastPlace = -149 := by decide
theorem word_mod64 {neg : Bool} {r : Nat} (h : r < double.signWeight) : double.word neg r % double.signWeight = r := word_mod double neg h
theorem min_ge {a b r : Nat} (h : min a b ≤ r) (h2 : a ≤ b) : a ≤ r := by omega
theorem cap64 {k j : Nat} (hk : k ≤ 254) (hj : j < 2 ^ 23) : (k + 896) * 2 ^ 52 + j * 2 ^ 29 ≤ 2047 * 2 ^ 52 := by omega
theorem cmp_lt_gt {a b : Int} (h : b < a) : compare a b = .gt := by
  rw [compare, instOrdInt]
  simp only [compareOfLessAndEq]
  rw [if_neg (by omega), if_neg (by omega)]
/-- a single number above a rung, widened -/
theorem wd_read {x : Nat} {s m p} (h : single.read x = .number s m p) (hlt : x < 2 ^ 32) : wd x = double.nearest s m p := by
  obtain ⟨r', h3, h4⟩ := (Num.mf32 ⟨s, m, p, h⟩ hlt).widen (by decide)
  have e6 : wd x = r' := by unfold wd; rw [h3]; rfl
  unfold floatToFloatBits at h3
  rw [if_neg (by decide)] at h3
  have : FloatKind.f32.decode x = .number s m p := h
  rw [this] at h3
  simp only at h3
  split at h3
  · cases h3
  · rw [e6]
    cases h3
    rfl
theorem wd_ge {x k j : Nat} (hx : Num .f32 x) (hlt : x < 2 ^ 32) (hk : 1 ≤ k) (hk2 : k ≤ 254) (hj : j < 2 ^ 23) (hr : k * 2 ^ 23 + j ≤ x % 2 ^ 31) : (k + 896) * 2 ^ 52 + j * 2 ^ 29 ≤ wd x % 2 ^ 63 := by
  obtain ⟨s, m, p, h⟩ := hx
  have h1 : single.read x = .number s m p := h
  have h2 := read_ge (j := j) h1 hk (by rw [bin32]; exact hj) (by rw [bin32, sw32]; exact hr)
  have hp := (read_num_bd h1).1
  rw [bin32, lp32] at h2
  rw [lp32] at hp
  have hj2 : j * 2 ^ 29 < double.binade := by
    rw [bin64, show (2 : Nat) ^ 52 = 2 ^ 23 * 2 ^ 29 by decide]
    exact Nat.mul_lt_mul_of_pos_right hj (by decide)
  obtain ⟨d, hd⟩ : ∃ d : Nat, d = 925 := ⟨_, rfl⟩
  obtain ⟨r, e1, e2, e3⟩ := nearest_ge (f := double) (mag := m) (place := p) (k := k + 896) (j := j * 2 ^ 29) s (by omega) hj2 (by
    rw [bin64, lp64, show ((-1074 : Int) - p).toNat = 0 by omega, Nat.pow_zero, Nat.mul_one]
    rw [show (p - -1074).toNat = (p - -149).toNat + d by omega, Nat.pow_add, ← Nat.mul_assoc]
    refine Nat.le_trans (Nat.le_of_eq ?_) (Nat.mul_le_mul_right _ h2)
    rw [show (2 : Nat) ^ 52 + j * 2 ^ 29 = (2 ^ 23 + j) * 2 ^ 29 by rw [Nat.add_mul], Nat.mul_assoc, Nat.mul_assoc, ← Nat.pow_add, ← Nat.pow_add]
    congr 2
    omega)
  have := word_mod64 (neg := s) e2
  rw [← e1, ← wd_read h1 hlt, sw64] at this
  rw [this]
  rw [bin64, inf64] at e3
  exact min_ge e3 (cap64 hk2 hj)
/-- the square of a number above 1 -/
theorem sq_ge {P PP : Nat} (h : 1023 * 2 ^ 52 + 2 ^ 29 ≤ P % 2 ^ 63) (hm : floatBits .mul .f64 P P = some PP) (hn : Num .f64 P) : PP < 2 ^ 63 ∧ 1023 * 2 ^ 52 + 2 ^ 30 ≤ PP := by
  obtain ⟨s, m, p, h1⟩ := hn
  have h1 : double.read P = .number s m p := h1
  obtain ⟨k, hk⟩ : ∃ k : Nat, k = 1023 := ⟨_, rfl⟩
  obtain ⟨z, hz⟩ : ∃ z : Nat, z = 1074 := ⟨_, rfl⟩
  have hk1 : 1 ≤ k := by omega
  have hkz : z = k - 1 + 52 := by omega
  have hzz : (z : Int) = 1074 := by omega
  clear hz
  have h2 := read_ge (k := k) (j := 2 ^ 29) h1 hk1 (by rw [bin64]; decide) (by rw [bin64, sw64, hk]; exact h)
  have hp := (read_num_bd h1).1
  rw [bin64, lp64] at h2
  rw [lp64] at hp
  have hm2 : double.mul P P = some PP := hm
  unfold Format.mul at hm2
  rw [h1] at hm2
  have e : PP = double.nearest (s ^^ s) (m * m) (p + p) := by cases hm2; rfl
  have es : (s ^^ s) = false := by cases s <;> rfl
  rw [es] at e
  obtain ⟨a, ha⟩ : ∃ a : Nat, p = (a : Int) - z := ⟨(p + 1074).toNat, by clear h2; omega⟩
  subst ha
  have q1 : ((a : Int) - z - -1074).toNat = a := by clear h2; omega
  have q2 : ((-1074 : Int) - ((a : Int) - z + ((a : Int) - z))).toNat = z - 2 * a := by clear h2; omega
  have q3 : ((a : Int) - z + ((a : Int) - z) - -1074).toNat = 2 * a - z := by clear h2; omega
  rw [q1] at h2
  obtain ⟨r, e1, e2, e3⟩ := nearest_ge (f := double) (mag := m * m) (place := (a : Int) - z + ((a : Int) - z)) (k := k) (j := 2 ^ 30) false hk1 (by rw [bin64]; decide) (by
    rw [bin64, lp64, q2, q3]
    refine Nat.le_of_mul_le_mul_right (c := 2 ^ z) ?_ (Nat.two_pow_pos _)
    have h3 := Nat.mul_le_mul h2 h2
    have e4 : m * m * 2 ^ (2 * a - z) * 2 ^ z = m * 2 ^ a * (m * 2 ^ a) * 2 ^ (z - 2 * a) := by
      rw [Nat.mul_assoc, ← Nat.pow_add, show m * 2 ^ a * (m * 2 ^ a) = m * m * (2 ^ a * 2 ^ a) by ac_rfl, Nat.mul_assoc (m * m), ← Nat.pow_add, ← Nat.pow_add]
      congr 2
      clear h2 h3
      omega
    rw [e4]
    refine Nat.le_trans ?_ (Nat.mul_le_mul_right _ h3)
    have e5 : (2 : Nat) ^ z = 2 ^ (k - 1) * 2 ^ 52 := by
      rw [← Nat.pow_add, hkz]
    have e6 : (2 ^ 52 + 2 ^ 30) * 2 ^ (k - 1) * 2 ^ (z - 2 * a) * 2 ^ z = ((2 ^ 52 + 2 ^ 30) * 2 ^ (k - 1) * 2 ^ z) * 2 ^ (z - 2 * a) := by
      generalize (2 ^ 52 + 2 ^ 30) * 2 ^ (k - 1) = X
      ac_rfl
    rw [e6]
    refine Nat.mul_le_mul_right _ ?_
    rw [e5]
    generalize (2 : Nat) ^ (k - 1) = X
    have e7 : (2 ^ 52 + 2 ^ 30) * X * (X * 2 ^ 52) = (2 ^ 52 + 2 ^ 30) * 2 ^ 52 * (X * X) := by
      generalize (2 ^ 52 + 2 ^ 30) = Y
      ac_rfl
    have e8 : (2 ^ 52 + 2 ^ 29) * X * ((2 ^ 52 + 2 ^ 29) * X) = (2 ^ 52 + 2 ^ 29) * (2 ^ 52 + 2 ^ 29) * (X * X) := by
      generalize (2 ^ 52 + 2 ^ 29) = Y
      ac_rfl
    rw [e7, e8]
    exact Nat.mul_le_mul_right _ (by decide))
  rw [e1, word_f] at e
  subst e
  rw [sw64] at e2
  rw [bin64, inf64, hk] at e3
  exact ⟨e2, min_ge e3 (by decide)⟩
theorem order_gt1 {x : Nat} (hx : x < 2 ^ 63) (h : 1023 * 2 ^ 52 + 2 ^ 30 ≤ x) : fcmp .leq .f64 x 4607182418800017408 = false := by
  have h2 : fcmp .leq .f64 x 4607182418800017408 = (double.order x 4607182418800017408 == some .lt || double.order x 4607182418800017408 == some .eq) := rfl
  rw [h2]
  cases hr : double.read x with
  | number s m p =>
    obtain ⟨k, hk⟩ : ∃ k : Nat, k = 1023 := ⟨_, rfl⟩
    have h3 := read_ge (k := k) (j := 2 ^ 30) hr (by clear h; omega) (by rw [bin64]; decide) (by rw [bin64, sw64, Nat.mod_eq_of_lt hx, hk]; exact h)
    have hs : s = false := by
      unfold Format.read at hr
      rw [sw64] at hr
      simp only at hr
      have : (x / 2 ^ 63 % 2 == 1) = false := by rw [Nat.div_eq_of_lt hx]; rfl
      rw [this] at hr
      split at hr
      · cases hr; rfl
      · split at hr
        · cases hr; rfl
        · split at hr <;> cases hr
    subst hs
    have h1 : double.read 4607182418800017408 = .number false 4503599627370496 (-52) := by decide +kernel
    have h4 := order_num hr h1
    have h4 : double.order x 4607182418800017408 = _ := h4
    rw [h4, signed_f, signed_f]
    rw [bin64, lp64] at h3
    have hp := (read_num_bd hr).1
    rw [lp64] at hp
    have hlt : (4503599627370496 * 2 ^ ((-52 : Int) - min p (-52)).toNat : Nat) < m * 2 ^ (p - min p (-52)).toNat := by
      refine Nat.lt_of_mul_lt_mul_right (a := 2 ^ (min p (-52) - -1074).toNat) ?_
      have a1 : ((-52 : Int) - min p (-52)).toNat + (min p (-52) - -1074).toNat = k - 1 := by clear h3; omega
      have a2 : (p - min p (-52)).toNat + (min p (-52) - -1074).toNat = (p - -1074).toNat := by clear h3; omega
      rw [Nat.mul_assoc, Nat.mul_assoc, ← Nat.pow_add, ← Nat.pow_add, a1, a2]
      refine Nat.lt_of_lt_of_le ?_ h3
      exact Nat.mul_lt_mul_of_pos_right (by decide) (Nat.two_pow_pos _)
    have := cmp_lt_gt (Int.ofNat_lt.2 hlt)
    rw [this]
    rfl
  | infinity s =>
    have hs : s = false := by
      unfold Format.read at hr
      rw [sw64] at hr
      simp only at hr
      have : (x / 2 ^ 63 % 2 == 1) = false := by rw [Nat.div_eq_of_lt hx]; rfl
      rw [this] at hr
      split at hr
      · cases hr
      · split at hr
        · cases hr
        · split at hr
          · cases hr; rfl
          · cases hr
    subst hs
    unfold Format.order
    rw [hr]
    have h1 : double.read 4607182418800017408 = .number false 4503599627370496 (-52) := by decide +kernel
    rw [h1]
    rfl
  | nan s f =>
    unfold Format.order
    rw [hr]
    rfl
theorem add_ge {x y r : Nat} (hx : x < 2 ^ 63) (hy : y < 2 ^ 63) (h : floatBits .add .f64 x y = some r) (nx : Num .f64 x) (ny : Num .f64 y) (hge : 1023 * 2 ^ 52 + 2 ^ 30 ≤ x ∨ 1023 * 2 ^ 52 + 2 ^ 30 ≤ y) : r < 2 ^ 63 ∧ 1023 * 2 ^ 52 + 2 ^ 30 ≤ r := by
  obtain ⟨s, m, p, h1⟩ := nx
  obtain ⟨t, n, q, h2⟩ := ny
  have h1 : double.read x = .number s m p := h1
  have h2 : double.read y = .number t n q := h2
  have sg : ∀ {x : Nat} {s m p}, x < 2 ^ 63 → double.read x = .number s m p → s = false := by
    intro x s m p hx hr
    unfold Format.read at hr
    rw [sw64] at hr
    simp only at hr
    have : (x / 2 ^ 63 % 2 == 1) = false := by rw [Nat.div_eq_of_lt hx]; rfl
    rw [this] at hr
    split at hr
    · cases hr; rfl
    · split at hr
      · cases hr; rfl
      · split at hr <;> cases hr
  cases sg hx h1
  cases sg hy h2
  have lx := (read_num_bd h1).1
  have ly := (read_num_bd h2).1
  rw [lp64] at lx ly
  have hs : double.add x y = some r := h
  unfold Format.add at hs
  rw [h1, h2] at hs
  simp only [Datum.sum, signed_f, Option.map_some, Option.some.injEq] at hs
  have e : r = double.nearest false (m * 2 ^ (p - min p q).toNat + n * 2 ^ (q - min p q).toNat) (min p q) := by
    rw [← hs]
    show double.nearest _ _ _ = _
    have hn : ¬ (((m * 2 ^ (p - min p q).toNat : Nat) : Int) + ((n * 2 ^ (q - min p q).toNat : Nat) : Int) < 0) := by omega
    congr 1
    rw [decide_eq_false hn]
    simp
  obtain ⟨k, hk⟩ : ∃ k : Nat, k = 1023 := ⟨_, rfl⟩
  have hk1 : 1 ≤ k := by clear e hs; omega
  have hge2 : (2 ^ 52 + 2 ^ 30) * 2 ^ (k - 1) ≤ (m * 2 ^ (p - min p q).toNat + n * 2 ^ (q - min p q).toNat) * 2 ^ (min p q - -1074).toNat := by
    have er : (m * 2 ^ (p - min p q).toNat + n * 2 ^ (q - min p q).toNat) * 2 ^ (min p q - -1074).toNat = m * 2 ^ (p - -1074).toNat + n * 2 ^ (q - -1074).toNat := by
      rw [Nat.add_mul, Nat.mul_assoc, Nat.mul_assoc, ← Nat.pow_add, ← Nat.pow_add, show (p - min p q).toNat + (min p q - -1074).toNat = (p - -1074).toNat by omega, show (q - min p q).toNat + (min p q - -1074).toNat = (q - -1074).toNat by omega]
    rw [er]
    rcases hge with h | h
    · have h3 := read_ge (k := k) (j := 2 ^ 30) h1 hk1 (by rw [bin64]; decide) (by rw [bin64, sw64, Nat.mod_eq_of_lt hx, hk]; exact h)
      rw [bin64, lp64] at h3
      exact Nat.le_trans h3 (Nat.le_add_right _ _)
    · have h3 := read_ge (k := k) (j := 2 ^ 30) h2 hk1 (by rw [bin64]; decide) (by rw [bin64, sw64, Nat.mod_eq_of_lt hy, hk]; exact h)
      rw [bin64, lp64] at h3
      exact Nat.le_trans h3 (Nat.le_add_left _ _)
  obtain ⟨r', e1, e2, e3⟩ := nearest_ge (f := double) (place := min p q) (k := k) (j := 2 ^ 30) false hk1 (by rw [bin64]; decide) (by
    rw [bin64, lp64, show ((-1074 : Int) - min p q).toNat = 0 by clear hge2 e hs; omega, Nat.pow_zero, Nat.mul_one]
    exact hge2)
  rw [e1, word_f] at e
  subst e
  rw [sw64] at e2
  rw [bin64, inf64, hk] at e3
  exact ⟨e2, min_ge e3 (by decide)⟩
theorem sq_lt {P PP : Nat} (hm : floatBits .mul .f64 P P = some PP) (hn : Num .f64 P) (hf : Num .f64 PP) : PP < 2 ^ 63 := by
  obtain ⟨s, m, p, h1⟩ := hn
  have h1 : double.read P = .number s m p := h1
  have hm2 : double.mul P P = some PP := hm
  unfold Format.mul at hm2
  rw [h1] at hm2
  have e : PP = double.nearest (s ^^ s) (m * m) (p + p) := by cases hm2; rfl
  have es : (s ^^ s) = false := by cases s <;> rfl
  rw [es] at e
  unfold Format.nearest at e
  have hi := double.infRung_lt
  rw [sw64] at hi
  split at e
  · rw [e]; decide
  · rw [e, word_f]
    omega
theorem sq_gt1 {P Q : Nat} (hP : Mf .f64 128 P) (hQ : Mf .f64 128 Q) (h : 1023 * 2 ^ 52 + 2 ^ 29 ≤ P % 2 ^ 63 ∨ 1023 * 2 ^ 52 + 2 ^ 29 ≤ Q % 2 ^ 63) : fcmp .leq .f64 (sq P Q) 4607182418800017408 = false := by
  obtain ⟨r, h1, h2⟩ := hP.mul hP (by decide)
  obtain ⟨t, h3, h4⟩ := hQ.mul hQ (by decide)
  obtain ⟨z, h5, h6⟩ := h2.add h4 (by decide)
  have e : sq P Q = z := by unfold sq; rw [fop_of h1, fop_of h3, fop_of h5]
  rw [e]
  have hr := sq_lt h1 hP.num h2.num
  have ht := sq_lt h3 hQ.num h4.num
  obtain ⟨a1, a2⟩ := add_ge hr ht h5 h2.num h4.num (h.imp (fun h => (sq_ge h h1 hP.num).2) (fun h => (sq_ge h h3 hQ.num).2))
  exact order_gt1 a1 a2
/-- a single number that is not above 1 -/
theorem mf0_of {x : Nat} (hx : x < 2 ^ 32) (h : x % 2 ^ 31 ≤ 127 * 2 ^ 23) : Mf .f32 0 x := ⟨read_bd (f := single) (K := 149) (by decide) (by rw [sw32]; exact h) (by decide), hx⟩
theorem ModeOk.pole1 {pr pi gr gi : Nat} (h : ModeOk pr pi gr gi) : Mf .f32 0 pr ∧ Mf .f32 0 pi := by
  obtain ⟨p1, p2⟩ := wd_spec h.pole.1 h.lt.1.1
  obtain ⟨q1, q2⟩ := wd_spec h.pole.2 h.lt.1.2
  have big : ∀ {x : Nat}, Num .f32 x → x < 2 ^ 32 → ¬ x % 2 ^ 31 ≤ 127 * 2 ^ 23 → 1023 * 2 ^ 52 + 2 ^ 29 ≤ wd x % 2 ^ 63 := by
    intro x hn hx hc
    have := wd_ge (k := 127) (j := 1) hn hx (by decide) (by decide) (by decide) (by omega)
    omega
  constructor
  · refine mf0_of h.lt.1.1 ?_
    by_cases hc : pr % 2 ^ 31 ≤ 127 * 2 ^ 23
    · exact hc
    · have := sq_gt1 p2 q2 (.inl (big h.pole.1 h.lt.1.1 hc))
      rw [h.one] at this
      cases this
  · refine mf0_of h.lt.1.2 ?_
    by_cases hc : pi % 2 ^ 31 ≤ 127 * 2 ^ 23
    · exact hc
    · have := sq_gt1 p2 q2 (.inr (big h.pole.2 h.lt.1.2 hc))
      rw [h.one] at this
      cases this
theorem gain_of {x : Nat} (hx : x < 2 ^ 32) (hn : Num .f32 x) (h : fcmp .leq .f64 (fabs (wd x)) 4652218415073722368 = true) : Mf .f32 11 x := by
  refine ⟨read_bd (f := single) (K := 160) (by decide) ?_ (by decide), hx⟩
  rw [sw32, bin32]
  by_cases hc : x % 2 ^ 31 ≤ (160 - single.fractionBits + 1) * 2 ^ 23
  · exact hc
  · exfalso
    have hc : 138 * 2 ^ 23 < x % 2 ^ 31 := by simp only [single] at hc; omega
    have h1 := wd_ge (k := 138) (j := 0) hn hx (by decide) (by decide) (by decide) (by omega)
    obtain ⟨p1, p2⟩ := wd_spec hn hx
    obtain ⟨s, m, p, hr⟩ := p2.num.abs
    have hr : double.read (fabs (wd x)) = .number s m p := hr
    obtain ⟨k, hk⟩ : ∃ k : Nat, k = 1034 := ⟨_, rfl⟩
    have h3 := read_ge (k := k) (j := 0) hr (by omega) (by rw [bin64]; decide) (by rw [bin64, sw64, hk]; unfold fabs; rw [Nat.mod_mod]; exact Nat.le_trans (by decide) h1)
    have hs : s = false := by
      have hlt : fabs (wd x) < 2 ^ 63 := Nat.mod_lt _ (by decide)
      unfold Format.read at hr
      rw [sw64] at hr
      simp only at hr
      have : (fabs (wd x) / 2 ^ 63 % 2 == 1) = false := by rw [Nat.div_eq_of_lt hlt]; rfl
      rw [this] at hr
      split at hr
      · cases hr; rfl
      · split at hr
        · cases hr; rfl
        · split at hr <;> cases hr
    subst hs
    have h4 : double.read 4652218415073722368 = .number false 4503599627370496 (-42) := by decide +kernel
    have h5 : fcmp .leq .f64 (fabs (wd x)) 4652218415073722368 = (double.order (fabs (wd x)) 4652218415073722368 == some .lt || double.order (fabs (wd x)) 4652218415073722368 == some .eq) := rfl
    have h6 : double.order (fabs (wd x)) 4652218415073722368 = _ := order_num hr h4
    rw [h5, h6, signed_f, signed_f] at h
    rw [bin64, lp64] at h3
    have hp := (read_num_bd hr).1
    rw [lp64] at hp
    have hlt : (4503599627370496 * 2 ^ ((-42 : Int) - min p (-42)).toNat : Nat) < m * 2 ^ (p - min p (-42)).toNat := by
      refine Nat.lt_of_mul_lt_mul_right (a := 2 ^ (min p (-42) - -1074).toNat) ?_
      have a1 : ((-42 : Int) - min p (-42)).toNat + (min p (-42) - -1074).toNat = k - 2 := by clear h3 h; omega
      have a2 : (p - min p (-42)).toNat + (min p (-42) - -1074).toNat = (p - -1074).toNat := by clear h3 h; omega
      have a3 : k - 1 = k - 2 + 1 := by clear h3 h; omega
      rw [Nat.mul_assoc, Nat.mul_assoc, ← Nat.pow_add, ← Nat.pow_add, a1, a2]
      refine Nat.lt_of_lt_of_le ?_ h3
      have a4 : (2 : Nat) ^ (k - 1) = 2 * 2 ^ (k - 2) := by rw [a3, Nat.pow_succ, Nat.mul_comm]
      rw [a4, ← Nat.mul_assoc]
      exact Nat.mul_lt_mul_of_pos_right (by decide) (Nat.two_pow_pos _)
    have := cmp_lt_gt (Int.ofNat_lt.2 hlt)
    rw [this] at h
    cases h
theorem ModeOk.gain11 {pr pi gr gi : Nat} (h : ModeOk pr pi gr gi) : Mf .f32 11 gr ∧ Mf .f32 11 gi :=
  ⟨gain_of h.lt.2.1 h.gain.1 h.most.1, gain_of h.lt.2.2 h.gain.2 h.most.2⟩
end Go.SX
set_option linter.unusedVariables false
set_option linter.unusedSimpArgs false
namespace Go.SX
/-! ### the player, in plain lists -/
abbrev Cx := Nat × Nat
def nw (x : Nat) : Nat := (floatToFloatBits .f64 x .f32).getD 0
def wdC (a : Cx) : Cx := (wd a.1, wd a.2)
def nwC (a : Cx) : Cx := (nw a.1, nw a.2)
def mulD (a b : Cx) : Cx := (fop .sub .f64 (fop .mul .f64 a.1 b.1) (fop .mul .f64 a.2 b.2), fop .add .f64 (fop .mul .f64 a.1 b.2) (fop .mul .f64 a.2 b.1))
def mulS (a b : Cx) : Cx := nwC (mulD (wdC a) (wdC b))
def scS (z : Cx) (x : Nat) : Cx := (fop .mul .f32 z.1 x, fop .mul .f32 z.2 x)
def addS (a b : Cx) : Cx := (fop .add .f32 a.1 b.1, fop .add .f32 a.2 b.2)
def stepM (m : Md) (s : Cx) (x : Nat) : Cx := addS (mulS s (m.pr, m.pi)) (scS (m.gr, m.gi) x)
def MC (e : Nat) (z : Cx) : Prop := Mf .f32 e z.1 ∧ Mf .f32 e z.2
theorem MC.mono {e e' : Nat} {z : Cx} (h : MC e z) (he : e ≤ e') : MC e' z := ⟨h.1.mono he, h.2.mono he⟩
def MD (e : Nat) (z : Cx) : Prop := Mf .f64 e z.1 ∧ Mf .f64 e z.2
theorem MC.wide {e : Nat} {z : Cx} (h : MC e z) (he : e ≤ 1023) : MD e (wdC z) ∧ floatToFloatBits .f32 z.1 .f64 = some (wd z.1) ∧ floatToFloatBits .f32 z.2 .f64 = some (wd z.2) := by
  obtain ⟨r, h1, h2⟩ := h.1.widen he
  obtain ⟨t, h3, h4⟩ := h.2.widen he
  have e1 : wd z.1 = r := by simp [wd, h1]
  have e2 : wd z.2 = t := by simp [wd, h3]
  unfold MD wdC
  rw [e1, e2]
  exact ⟨⟨h2, h4⟩, h1, h3⟩
theorem MD.narrow {e : Nat} {z : Cx} (h : MD e z) (he : e ≤ 127) : MC e (nwC z) ∧ floatToFloatBits .f64 z.1 .f32 = some (nw z.1) ∧ floatToFloatBits .f64 z.2 .f32 = some (nw z.2) := by
  obtain ⟨r, h1, h2⟩ := h.1.narrow he
  obtain ⟨t, h3, h4⟩ := h.2.narrow he
  have e1 : nw z.1 = r := by simp [nw, h1]
  have e2 : nw z.2 = t := by simp [nw, h3]
  unfold MC nwC
  rw [e1, e2]
  exact ⟨⟨h2, h4⟩, h1, h3⟩
structure MulD (e : Nat) (a b : Cx) : Prop where
  ac : (floatBits .mul .f64 a.1 b.1).isSome = true
  bd : (floatBits .mul .f64 a.2 b.2).isSome = true
  ad : (floatBits .mul .f64 a.1 b.2).isSome = true
  bc : (floatBits .mul .f64 a.2 b.1).isSome = true
  re : (floatBits .sub .f64 (fop .mul .f64 a.1 b.1) (fop .mul .f64 a.2 b.2)).isSome = true
  im : (floatBits .add .f64 (fop .mul .f64 a.1 b.2) (fop .mul .f64 a.2 b.1)).isSome = true
  out : MD (e + 1) (mulD a b)
theorem MD.mul {e : Nat} {a b : Cx} (ha : MD e a) (hb : MD 0 b) (he : e + 1 ≤ 1023) : MulD e a b := by
  obtain ⟨ac, h1, b1⟩ := ha.1.mul hb.1 (by show e + 0 ≤ 1023; omega)
  obtain ⟨bd, h2, b2⟩ := ha.2.mul hb.2 (by show e + 0 ≤ 1023; omega)
  obtain ⟨ad, h3, b3⟩ := ha.1.mul hb.2 (by show e + 0 ≤ 1023; omega)
  obtain ⟨bc, h4, b4⟩ := ha.2.mul hb.1 (by show e + 0 ≤ 1023; omega)
  obtain ⟨re, h5, b5⟩ := b1.sub b2 (by show e + 0 + 1 ≤ 1023; omega)
  obtain ⟨im, h6, b6⟩ := b3.add b4 (by show e + 0 + 1 ≤ 1023; omega)
  have e1 := fop_of h1
  have e2 := fop_of h2
  have e3 := fop_of h3
  have e4 := fop_of h4
  refine ⟨by rw [h1]; rfl, by rw [h2]; rfl, by rw [h3]; rfl, by rw [h4]; rfl, by rw [e1, e2, h5]; rfl, by rw [e3, e4, h6]; rfl, ?_⟩
  unfold MD mulD
  simp only
  rw [e1, e2, e3, e4, fop_of h5, fop_of h6]
  exact ⟨b5, b6⟩
structure AddS (e : Nat) (a b : Cx) : Prop where
  re : (floatBits .add .f32 a.1 b.1).isSome = true
  im : (floatBits .add .f32 a.2 b.2).isSome = true
  out : MC (e + 1) (addS a b)
theorem MC.add {e : Nat} {a b : Cx} (ha : MC e a) (hb : MC e b) (he : e + 1 ≤ 127) : AddS e a b := by
  obtain ⟨re, h5, b5⟩ := ha.1.add hb.1 he
  obtain ⟨im, h6, b6⟩ := ha.2.add hb.2 he
  refine ⟨by rw [h5]; rfl, by rw [h6]; rfl, ?_⟩
  unfold MC addS
  simp only
  rw [fop_of h5, fop_of h6]
  exact ⟨b5, b6⟩
structure ScS (e : Nat) (a : Cx) (x : Nat) : Prop where
  re : (floatBits .mul .f32 a.1 x).isSome = true
  im : (floatBits .mul .f32 a.2 x).isSome = true
  out : MC e (scS a x)
theorem MC.scale {e e' : Nat} {a : Cx} {x : Nat} (ha : MC e a) (hx : Mf .f32 e' x) (he : e + e' ≤ 127) : ScS (e + e') a x := by
  obtain ⟨re, h5, b5⟩ := ha.1.mul hx he
  obtain ⟨im, h6, b6⟩ := ha.2.mul hx he
  refine ⟨by rw [h5]; rfl, by rw [h6]; rfl, ?_⟩
  unfold MC scS
  simp only
  rw [fop_of h5, fop_of h6]
  exact ⟨b5, b6⟩
/-- a mode as a voice has it -/
structure Gm (m : Md) : Prop where
  pole : MC 0 (m.pr, m.pi)
  gain : MC 11 (m.gr, m.gi)
theorem Md.ok.gm {m : Md} (h : m.ok) : Gm m := ⟨ModeOk.pole1 h, ModeOk.gain11 h⟩
theorem mulS_ok {e : Nat} {a b : Cx} (ha : MC e a) (hb : MC 0 b) (he : e + 1 ≤ 127) : MC (e + 1) (mulS a b) :=
  (((ha.wide (by omega)).1.mul (hb.wide (by decide)).1 (by omega)).out.narrow he).1
theorem stepM_ok {m : Md} {s : Cx} {x e : Nat} (hm : Gm m) (hs : MC e s) (hx : Mf .f32 20 x) (h0 : 31 ≤ e) (he : e + 2 ≤ 127) : MC (e + 2) (stepM m s x) :=
  ((mulS_ok hs hm.pole (by omega)).add ((hm.gain.scale hx (by decide)).out.mono (by omega)) (by omega)).out

/-! ### voices -/
structure Vc where
  body : Int
  modes : List Md
  states : List Cx
  input : List Nat
  track : Nat
def stepL : List Md → List Cx → Nat → List Cx
  | m :: ms, s :: ss, x => stepM m s x :: stepL ms ss x
  | _, _, _ => []
def sum32 (o : Nat) (l : List Nat) : Nat := l.foldl (fop .add .f32) o
def sumR (o : Nat) (l : List Cx) : Nat := sum32 o (l.map (·.1))
def Vc.x (v : Vc) : Nat := v.input.headD 0
def Vc.out (v : Vc) : Nat := sumR 0 (stepL v.modes v.states v.x)
def Vc.next (v : Vc) : Vc := { v with states := stepL v.modes v.states v.x, input := v.input.tail }
structure Pz where
  now : Nat
  done : Nat
  begun : Nat
  voices : List Vc
def dmpM (f : Nat) (m : Md) : Md := { m with pr := (scS (m.pr, m.pi) f).1, pi := (scS (m.pr, m.pi) f).2 }
def shapeL (e : Ev) : List Nat := (List.range e.count.toNat).map fun j => fop .mul .f32 (shapeW e.shape e.count.toNat j) e.force
def newVc (s : Sc) (e : Ev) (k : Nat) : Vc := ⟨e.body, s.bodies.getD e.body.toNat [], List.replicate (s.bodies.getD e.body.toNat []).length (0, 0), shapeL e, k⟩
def happen (s : Sc) (e : Ev) (p : Pz) : Pz :=
  if e.kind = 1 then { p with voices := (if s.voices ≤ (p.voices.length : Int) then p.voices.drop 1 else p.voices) ++ [newVc s e p.begun], begun := p.begun + 1 }
  else if e.kind = 2 then { p with voices := p.voices.map fun v => if v.body = e.body then { v with modes := v.modes.map (dmpM e.force) } else v }
  else { p with voices := p.voices.filter fun v => !(v.body == e.body) }
def arrL (s : Sc) : List Ev → Pz → Pz
  | [], p => p
  | e :: r, p => if e.at_ = p.now then arrL s r { happen s e p with done := p.done + 1 } else p
def arr (s : Sc) (evs : List Ev) (p : Pz) : Pz := arrL s (evs.drop p.done) p
def nextP (s : Sc) (evs : List Ev) (p : Pz) : Pz := let q := arr s evs p; { q with voices := q.voices.map Vc.next, now := q.now + 1 }
def outsP (s : Sc) (evs : List Ev) (p : Pz) : List Nat := (arr s evs p).voices.map Vc.out
def P0 : Pz := ⟨0, 0, 0, []⟩
def runP (s : Sc) (evs : List Ev) : Nat → Pz
  | 0 => P0
  | t + 1 => nextP s evs (runP s evs t)
/-! ### sums and steps, one by one -/
theorem sum32_snoc (o : Nat) (l : List Nat) (x : Nat) : sum32 o (l ++ [x]) = fop .add .f32 (sum32 o l) x := by simp [sum32]
theorem sum32_mf {e : Nat} : ∀ {xs : List Nat} {o d : Nat}, (∀ x ∈ xs, Mf .f32 e x) → Mf .f32 (e + d) o → e + d + xs.length ≤ 127 → Mf .f32 (e + d + xs.length) (sum32 o xs)
  | [], o, d, _, ho, _ => by simpa [sum32] using ho
  | x :: r, o, d, h, ho, hl => by
    simp only [List.length_cons] at hl
    obtain ⟨t, h1, h2⟩ := ho.add ((h x List.mem_cons_self).mono (Nat.le_add_right e d)) (by show e + d + 1 ≤ 127; omega)
    have := sum32_mf (xs := r) (o := t) (d := d + 1) (fun y hy => h y (List.mem_cons_of_mem _ hy)) h2 (by omega)
    rw [List.length_cons, show e + d + (r.length + 1) = e + (d + 1) + r.length by omega]
    show Mf .f32 _ (sum32 (fop .add .f32 o x) r)
    rw [fop_of h1]
    exact this
theorem sum32_add {e : Nat} {xs : List Nat} {x : Nat} (h : ∀ x ∈ xs, Mf .f32 e x) (hx : Mf .f32 e x) (hl : e + xs.length + 1 ≤ 127) (h0 : Mf .f32 0 0) : (floatBits .add .f32 (sum32 0 xs) x).isSome = true := by
  have h1 := sum32_mf (xs := xs) (o := 0) (d := 0) h (h0.mono (Nat.zero_le _)) (by omega)
  obtain ⟨t, h2, _⟩ := h1.add (hx.mono (show e ≤ e + 0 + xs.length by omega)) (by show e + 0 + xs.length + 1 ≤ 127; omega)
  rw [h2]
  rfl
theorem mf_zero (e : Nat) : Mf .f32 e 0 := (small_mf (by decide)).mono (Nat.zero_le _)
theorem stepL_len : ∀ (ms : List Md) (ss : List Cx) (x : Nat), ms.length = ss.length → (stepL ms ss x).length = ss.length
  | [], [], _, _ => rfl
  | _ :: ms, _ :: ss, x, h => by simp only [stepL, List.length_cons, stepL_len ms ss x (by simpa using h)]
  | [], _ :: _, _, h => by simp at h
  | _ :: _, [], _, h => by simp at h
theorem stepL_ok {e x : Nat} (hx : Mf .f32 20 x) (h0 : 31 ≤ e) (he : e + 2 ≤ 127) : ∀ {ms : List Md} {ss : List Cx}, (∀ m ∈ ms, Gm m) → (∀ s ∈ ss, MC e s) → ∀ z ∈ stepL ms ss x, MC (e + 2) z
  | m :: ms, s :: ss, hm, hs, z, hz => by
    rcases List.mem_cons.1 hz with rfl | hz
    · exact stepM_ok (hm m List.mem_cons_self) (hs s List.mem_cons_self) hx h0 he
    · exact stepL_ok hx h0 he (fun m h => hm m (List.mem_cons_of_mem _ h)) (fun s h => hs s (List.mem_cons_of_mem _ h)) z hz
  | [], _, _, _, z, hz => by cases hz
  | _ :: _, [], _, _, z, hz => by cases hz
/-- the first i states stepped -/
def mixL (x : Nat) : Nat → List Md → List Cx → List Cx
  | i + 1, m :: ms, s :: ss => stepM m s x :: mixL x i ms ss
  | _, _, ss => ss
theorem mixL_zero (x : Nat) (ms : List Md) (ss : List Cx) : mixL x 0 ms ss = ss := by cases ms <;> cases ss <;> rfl
theorem mixL_len {x : Nat} : ∀ (i : Nat) (ms : List Md) (ss : List Cx), (mixL x i ms ss).length = ss.length
  | 0, ms, ss => by rw [mixL_zero]
  | i + 1, [], ss => rfl
  | i + 1, _ :: _, [] => rfl
  | i + 1, m :: ms, s :: ss => by simp only [mixL, List.length_cons, mixL_len i ms ss]
theorem mixL_all {x : Nat} : ∀ (ms : List Md) (ss : List Cx), ms.length = ss.length → mixL x ms.length ms ss = stepL ms ss x
  | [], [], _ => rfl
  | m :: ms, s :: ss, h => by simp only [List.length_cons, mixL, stepL, mixL_all ms ss (by simpa using h)]
  | [], _ :: _, h => by simp at h
  | _ :: _, [], h => by simp at h
theorem mixL_at {x : Nat} : ∀ (i : Nat) (ms : List Md) (ss : List Cx), (mixL x i ms ss)[i]? = ss[i]?
  | 0, ms, ss => by rw [mixL_zero]
  | i + 1, [], ss => rfl
  | i + 1, _ :: _, [] => rfl
  | i + 1, m :: ms, s :: ss => by simp only [mixL, List.getElem?_cons_succ, mixL_at i ms ss]
theorem mixL_set {x : Nat} : ∀ (i : Nat) (ms : List Md) (ss : List Cx) (h : i < ms.length) (h' : i < ss.length), (mixL x i ms ss).set i (stepM ms[i] ss[i] x) = mixL x (i + 1) ms ss
  | 0, m :: ms, s :: ss, _, _ => by simp [mixL, mixL_zero]
  | i + 1, m :: ms, s :: ss, h, h' => by
    have := mixL_set (x := x) i ms ss (by simpa using h) (by simpa using h')
    simp only [mixL, List.set_cons_succ, List.getElem_cons_succ]
    rw [this]
  | i, [], ss, h, _ => by simp at h
  | i, _ :: _, [], _, h' => by simp at h'
theorem mixL_take {x : Nat} : ∀ (i : Nat) (ms : List Md) (ss : List Cx) (h : i < ms.length) (h' : i < ss.length), (mixL x (i + 1) ms ss).take (i + 1) = (mixL x i ms ss).take i ++ [stepM ms[i] ss[i] x]
  | 0, m :: ms, s :: ss, _, _ => by simp [mixL, mixL_zero]
  | i + 1, m :: ms, s :: ss, h, h' => by
    have := mixL_take (x := x) i ms ss (by simpa using h) (by simpa using h')
    simp only [List.getElem_cons_succ]
    show (stepM m s x :: mixL x (i + 1) ms ss).take (i + 1 + 1) = (stepM m s x :: mixL x i ms ss).take (i + 1) ++ _
    rw [List.take_succ_cons, List.take_succ_cons, this]
    rfl
  | i, [], ss, h, _ => by simp at h
  | i, _ :: _, [], _, h' => by simp at h'
theorem mixL_mem {x e : Nat} (hx : Mf .f32 20 x) (h0 : 31 ≤ e) (he : e + 2 ≤ 127) : ∀ (i : Nat) {ms : List Md} {ss : List Cx}, (∀ m ∈ ms, Gm m) → (∀ s ∈ ss, MC e s) → i ≤ ms.length → ∀ z ∈ (mixL x i ms ss).take i, MC (e + 2) z
  | 0, ms, ss, _, _, _, z, hz => by simp at hz
  | i + 1, m :: ms, s :: ss, hm, hs, hi, z, hz => by
    simp only [mixL, List.take_succ_cons] at hz
    rcases List.mem_cons.1 hz with rfl | hz
    · exact stepM_ok (hm m List.mem_cons_self) (hs s List.mem_cons_self) hx h0 he
    · exact mixL_mem hx h0 he i (fun m h => hm m (List.mem_cons_of_mem _ h)) (fun s h => hs s (List.mem_cons_of_mem _ h)) (by simpa using hi) z hz
  | i + 1, [], ss, _, _, hi, z, hz => by simp at hi
  | i + 1, _ :: _, [], _, _, _, z, hz => by simp [mixL] at hz
/-! ### the limiter -/
def sz32 (x : Nat) : Nat := x % 2 ^ 31
def limE (env x rel : Nat) : Nat := if fcmp .gtr .f32 (sz32 x) (fop .mul .f32 env rel) = true then sz32 x else fop .mul .f32 env rel
def limX (env x ce rel : Nat) : Nat := if fcmp .gtr .f32 (limE env x rel) ce = true then fop .quo .f32 (fop .mul .f32 x ce) (limE env x rel) else x
def envP (s : Sc) (evs : List Ev) : Nat → Nat
  | 0 => 0
  | t + 1 => limE (envP s evs t) (sum32 0 (outsP s evs (runP s evs t))) s.rel
def smpP (s : Sc) (evs : List Ev) (t : Nat) : Nat := limX (envP s evs t) (sum32 0 (outsP s evs (runP s evs t))) s.ceil s.rel
end Go.SX
set_option linter.unusedVariables false
set_option linter.unusedSimpArgs false
set_option linter.unusedSectionVars false
namespace Go
/-! ### a drawing region: some operations only look, the others are taken in every order -/
section
variable {P : Program} {ops : Array Oper} {md : Region.Mode} {C : World → Prop} {Q : Exit → Act → World → Prop} {hs : List Nat}
def wpAnyH (P : Program) (md : Region.Mode) (ops : Array Oper) (C : World → Prop) (hs : List Nat) (Q : Exit → Act → World → Prop) : Nat → Array Bool → Act → World → Prop
  | 0, listed, a, w => Region.ready md ops listed = [] ∧ Q .normal a w
  | fuel + 1, listed, a, w =>
    (Region.ready md ops listed = [] → Q .normal a w) ∧
    ∀ i ∈ Region.ready md ops listed, wpOp P ops Q i (fun a' w' => ((hs.contains i = true → w' = w) ∧ (hs.contains i = false → (hs.all fun j => Region.waitsFor md ops i j) = true ∨ C w')) ∧ wpAnyH P md ops C hs Q fuel (listed.setIfInBounds i true) a' w') a w
theorem wpAny_of_H : ∀ (f : Nat) (listed : Array Bool) (a : Act) (w : World), wpAnyH P md ops C hs Q f listed a w → wpAny P md ops Q f listed a w
  | 0, _, _, _, h => h
  | f + 1, _, _, _, h => ⟨h.1, fun i hi => wpOp_mono (fun a' w' h' => wpAny_of_H f _ a' w' h'.2) (h.2 i hi)⟩
theorem wpAnyH_first {i : Nat} {oi : Oper} {v : Value} (hin : hs.contains i = true) (hi : ops[i]? = some oi) (hsel : ∀ (j : Nat) (o : Oper) cs b, ops[j]? = some o → o.op ≠ .select cs b)
    (hQ : ∀ c a w, Q (.panic c) (a.put oi.dst v) w → Q (.panic c) a w) :
    ∀ (fuel : Nat) (listed : Array Bool) (a : Act) (w : World), C w →
      (∀ j oj, ops[j]? = some oj → j ≠ i → listed.getD j true = false → (∀ e ∈ oj.after, Region.binds md e = true → e.on ≠ i) → oi.apart ops oj = true) →
      i ∈ Region.ready md ops listed → YieldsC P ops C oi v a →
      wpAnyH P md ops C hs Q fuel (listed.setIfInBounds i true) (a.put oi.dst v) w → wpAnyH P md ops C hs Q (fuel + 1) listed a w := by
  intro fuel
  induction fuel with
  | zero =>
    intro listed a w hCw _ hr hy H
    refine ⟨fun h => (by rw [h] at hr; cases hr), fun j hj => ?_⟩
    by_cases hji : j = i
    · subst hji; exact hy.wpOp hi hCw ⟨⟨fun _ => rfl, fun h => by rw [hin] at h; cases h⟩, H⟩
    · have := ready_mono hj hji
      rw [H.1] at this
      cases this
  | succ fuel ih =>
    intro listed a w hCw hfree hr hy H
    refine ⟨fun h => (by rw [h] at hr; cases hr), fun j hj => ?_⟩
    by_cases hji : j = i
    · subst hji; exact hy.wpOp hi hCw ⟨⟨fun _ => rfl, fun h => by rw [hin] at h; cases h⟩, H⟩
    · have h1 := H.2 j (ready_mono hj hji)
      obtain ⟨hjun, oj, hoj, hall⟩ := mem_ready.1 hj
      have hnot : ∀ e ∈ oj.after, Region.binds md e = true → e.on ≠ i := fun e he hb heq => by
        have h1 := hall e he hb
        have h0 := (mem_ready.1 hr).1
        rw [heq] at h1
        rcases Nat.lt_or_ge i listed.size with h' | h'
        · simp [h'] at h0 h1; rw [h0] at h1; cases h1
        · simp [Array.getElem?_eq_none h'] at h1
      have hnl : Region.waitsFor md ops j i = false := by
        cases hl : Region.waitsFor md ops j i
        · rfl
        · obtain ⟨oj', hoj', e, he, hb, heq⟩ := Region.waitsFor_spec hl
          rw [hoj] at hoj'
          cases hoj'
          exact absurd heq (hnot e he hb)
      have h2 := wpOp_putC hoj (hfree j oj hoj hji hjun hnot) (fun cs b => hsel i oi cs b hi) (fun cs b => hsel j oj cs b hoj) hQ hy h1
      have hfree' : ∀ k ok, ops[k]? = some ok → k ≠ i → (listed.setIfInBounds j true).getD k true = false →
          (∀ e ∈ ok.after, Region.binds md e = true → e.on ≠ i) → oi.apart ops ok = true := fun k ok hk hki hun hno => by
        refine hfree k ok hk hki ?_ hno
        by_cases hjk : j = k
        · subst hjk; exact hjun
        · rw [getD_set_ne true hjk] at hun; exact hun
      refine wpOp_mono (fun a' w' h3 => ?_) h2
      have hC' : C w' := by
        cases hjc : hs.contains j with
        | true => rw [h3.2.1.1 hjc]; exact hCw
        | false => exact (h3.2.1.2 hjc).resolve_left (fun hall => by
            have := List.all_eq_true.1 hall i (by simpa using hin)
            rw [hnl] at this
            cases this)
      refine ⟨h3.2.1, ih (listed.setIfInBounds j true) a' w' hC' hfree' (ready_mono hr (Ne.symm hji)) h3.1 ?_⟩
      rw [Array.setIfInBounds_comm _ _ hji]
      exact h3.2.2
def Region.lexHs (md : Region.Mode) (ops : Array Oper) : List Nat → Array Bool → Bool
  | [], _ => true
  | i :: r, listed => (Region.ready md ops listed).contains i && Region.free md ops listed i && Region.lexHs md ops r (listed.setIfInBounds i true)
def Region.mark : List Nat → Array Bool → Array Bool
  | [], l => l
  | i :: r, l => Region.mark r (l.setIfInBounds i true)
def wpPureL (P : Program) (ops : Array Oper) (C : World → Prop) (Q : Act → Prop) : List Oper → Act → Prop
  | [], a => Q a
  | o :: rest, a => if Region.wanted o (yielded ops a.tmps) then ∃ v, (∀ w, C w → (execOp a.eval o).run P w = .ok (.value v) w) ∧ wpPureL P ops C Q rest (a.put o.dst v) else wpPureL P ops C Q rest (a.put o.dst undef)
theorem wpAnyH_lex {g : Nat} (hsel : Region.noSelect ops = true) (hQ : ∀ d v c a w, Q (.panic c) (a.put d v) w → Q (.panic c) a w) {w : World} (hCw : C w) :
    ∀ (is : List Nat) (os : List Oper) (listed : Array Bool) (a : Act), is.map (ops[·]?) = os.map some → (∀ i ∈ is, hs.contains i = true) → Region.lexHs md ops is listed = true →
    wpPureL P ops C (fun a' => wpAnyH P md ops C hs Q g (Region.mark is listed) a' w) os a → wpAnyH P md ops C hs Q (is.length + g) listed a w
  | [], [], listed, a, _, _, _, h => by
    rw [List.length_nil, Nat.zero_add]
    exact h
  | [], _ :: _, _, _, he, _, _, _ => by simp at he
  | _ :: _, [], _, _, he, _, _, _ => by simp at he
  | i :: is, o :: os, listed, a, he, hin, hB, h => by
    simp only [List.map_cons, List.cons.injEq] at he
    simp only [Region.lexHs, Bool.and_eq_true] at hB
    obtain ⟨⟨hr, hf⟩, hB'⟩ := hB
    have hr' : i ∈ Region.ready md ops listed := by simpa using hr
    obtain ⟨v, hy, hK⟩ : ∃ v, YieldsC P ops C o v a ∧ wpPureL P ops C (fun a' => wpAnyH P md ops C hs Q g (Region.mark is (listed.setIfInBounds i true)) a' w) os (a.put o.dst v) := by
      unfold wpPureL at h
      by_cases hw : Region.wanted o (yielded ops a.tmps) = true
      · rw [if_pos hw] at h
        obtain ⟨v, h1, h2⟩ := h
        exact ⟨v, .inl ⟨hw, h1⟩, h2⟩
      · rw [if_neg hw] at h
        exact ⟨undef, .inr ⟨by simpa using hw, rfl⟩, h⟩
    rw [List.length_cons, show is.length + 1 + g = (is.length + g) + 1 by omega]
    exact wpAnyH_first (hin i List.mem_cons_self) he.1 (Region.noSelect_spec hsel) (hQ o.dst v) (is.length + g) listed a w hCw (Region.free_spec he.1 hf) hr' hy
      (wpAnyH_lex hsel hQ hCw is os _ _ he.2 (fun j hj => hin j (List.mem_cons_of_mem _ hj)) hB' hK)
def Region.headB (md : Region.Mode) (ops : Array Oper) (hs : List Nat) : Bool :=
  Region.noSelect ops && decide (hs.length ≤ ops.size) && Region.lexHs md ops hs (Array.replicate ops.size false)
theorem wp_region_heads {id : Nat} {a : Act} {w : World} {l os : List Oper} (hs : List Nat) (hm : P.follows .mixedOrders = true) (hB : Region.headB .any l.toArray hs = true)
    (hQ : ∀ d v c a w, Q (.panic c) (a.put d v) w → Q (.panic c) a w) (hC : C { w with drawn := w.drawn + 1 }) (he : hs.map (l.toArray[·]?) = os.map some)
    (h : wpPureL P l.toArray C (fun a' => wpAnyH P .any l.toArray C hs Q (l.length - hs.length) (Region.mark hs (Array.replicate l.toArray.size false)) a' { w with drawn := w.drawn + 1 }) os a) : (Code.region id l.toArray true).wp P Q a w := by
  simp only [Region.headB, Bool.and_eq_true, decide_eq_true_eq] at hB
  obtain ⟨⟨hsel, hn⟩, hl⟩ := hB
  refine wp_region_any hm (wpAny_of_H (C := C) (hs := hs) _ _ _ _ ?_)
  have := wpAnyH_lex (md := .any) (hs := hs) (g := l.length - hs.length) hsel hQ hC hs os _ a he (fun i hi => by simpa using hi) hl h
  rw [show hs.length + (l.length - hs.length) = l.toArray.size by simp at hn ⊢; omega] at this
  exact this
end
end Go
namespace Go.SX
section
variable {P : Program} {T : TT} (hT : TabOk P T) {R : Exit → Act → World → Prop} {C : World → Prop} {hs : List Nat} {β : List Nat} {bx : BL} {u w : World} {a : Act} {n : Nat} {l : EL} {tl : List Hp} {k : List TK} {all rest : List Oper} {o : Oper}
include hT
theorem qrunL_ok {ch n tl all bx} {u w0 : World} {β : List Nat} (H0 : SH u w0 (bhs β bx ++ tl)) (wb : ∀ e ∈ bx, e.1 < β.length ∧ SV.wfs β.length e.2.2) {Q : Act → Prop} :
    ∀ {os : List Oper} {ds : List Dn} {l : EL} {cs : List Prop} {r : QO} {a : Act}, Env β a n l → qrun T ch n tl all bx ds os l cs = r → allP r.cs → r.rest = [] →
    (∀ a', Env β a' n r.l → Q a') → wpPureL P all.toArray (fun w => SH u w (bhs β bx ++ tl)) Q os a
  | [], ds, l, cs, r, a, E, h, hc, hr, hk => by subst h; exact hk a E
  | o :: rest, ds, l, cs, r, a, E, h, hc, hr, hk => by
    simp only [qrun] at h
    split at h
    · subst h; cases hr
    · rename_i hd
      split at h
      · subst h; cases hr
      · rename_i ds1 l1 c1 hg
        split at h
        · rename_i ds2 y c2 h1
          rw [nfV_eq, putK_eq] at h
          have hcs := qrun_cs h hc
          obtain ⟨E1, hw⟩ := guardV_ok E hg hcs.2.1
          unfold wpPureL
          rw [if_pos hw]
          have hwf := (oneV_ok hT E1 H0 wb h1 hcs.1).2
          exact ⟨SV.dn β y, fun w H => (oneV_ok hT E1 H wb h1 hcs.1).1, qrunL_ok H0 wb (putl_ok E1 hd hwf) h hc hr hk⟩
        · subst h; cases hr
      · rename_i ds1 l1 c1 hg
        rw [putK_eq] at h
        have hcs := qrun_cs h hc
        obtain ⟨E1, hw⟩ := guardV_ok E hg hcs.1
        unfold wpPureL
        rw [if_neg (by simp [hw])]
        exact qrunL_ok H0 wb (putl_ok E1 hd (x := .v undef) trivial) h hc hr hk
/-- a drawing region: the operations hs only look, at bx0 and tl0; the others stand in any order -/
theorem xhs {fn : Func} {Post : Ending → World → Prop} (hs : List Nat) {pre tp : _} (bx0 : BL) (tl0 : List Hp) (hbx : bx = pre ++ bx0) (htl : tl = tp ++ tl0) {id : Nat} {ops : List Oper} (S : St β u w a n l bx tl) (hB : Region.headB .any ops.toArray hs = true)
    (he : hs.map (ops.toArray[·]?) = (hs.filterMap (ops.toArray[·]?)).map some) (ch : Bool) (ds : List Dn) {ds' l' cs'} (h : qrun T ch n tl0 ops bx0 ds (hs.filterMap (ops.toArray[·]?)) l [] = ⟨ds', l', [], cs'⟩) (hc : allP cs')
    (hk : ∀ a' w', St β u w' a' n l' bx tl → wpAnyH P .any ops.toArray (fun w => SH u w (bhs β bx0 ++ tl0)) hs (PQ P (bodyPost P fn Post) k) (ops.length - hs.length) (Region.mark hs (Array.replicate ops.toArray.size false)) a' w') :
    PQ P (bodyPost P fn Post) (.c (.region id ⟨ops⟩ true) :: k) .normal a w := by
  have hsub : (bhs β bx0 ++ tl0).Sublist (bhs β bx ++ tl) := by
    subst hbx
    subst htl
    refine List.Sublist.append ?_ (List.sublist_append_right _ _)
    simp [bhs]
  have wb0 : ∀ e ∈ bx0, e.1 < β.length ∧ SV.wfs β.length e.2.2 := fun e he => S.wb e (by subst hbx; exact List.mem_append_right _ he)
  simp only [PQ, Exit.then]
  refine wp_region_heads (C := fun w => SH u w (bhs β bx0 ++ tl0)) hs hT.mixed hB (fun d v c a w h => PQ_panic body_panic k h) (S.sh.draw.sub hsub) he ?_
  exact qrunL_ok hT (S.sh.sub hsub) wb0 S.env h hc rfl fun a' E' => hk a' _ ⟨E', S.sh.draw, S.wb⟩
omit hT
abbrev WA (C : World → Prop) (all : List Oper) (hs : List Nat) (i : Nat) : World → Prop := fun w => (hs.all fun j => Region.waitsFor .any all.toArray i j) = true ∨ C w
theorem xtO {g i : Nat} {listed : Array Bool} (h0 : all.toArray[i]? = some o) (hn : hs.contains i = false)
    (h : PQ P R (.r all [o] :: .a (WA C all hs i) :: .j (wpAnyH P .any all.toArray C hs (PQ P R k) g (listed.setIfInBounds i true)) :: k) .normal a w) :
    wpOp P all.toArray (PQ P R k) i (fun a' w' => ((hs.contains i = true → w' = w) ∧ (hs.contains i = false → (hs.all fun j => Region.waitsFor .any all.toArray i j) = true ∨ C w')) ∧ wpAnyH P .any all.toArray C hs (PQ P R k) g (listed.setIfInBounds i true) a' w') a w := by
  have hq : ∀ e, e ≠ .normal → ∀ a w, PQ P R (.a (WA C all hs i) :: .j (wpAnyH P .any all.toArray C hs (PQ P R k) g (listed.setIfInBounds i true)) :: k) e a w = PQ P R k e a w := fun e he a w => by
    cases e <;> first | exact absurd rfl he | simp only [PQ, Exit.then]
  rw [PQ] at h
  simp only [Exit.then] at h
  unfold wpList at h
  unfold wpOp
  rw [h0]
  dsimp only
  have key : ∀ a' w', wpList P all.toArray (PQ P R (.a (WA C all hs i) :: .j (wpAnyH P .any all.toArray C hs (PQ P R k) g (listed.setIfInBounds i true)) :: k)) [] a' w' → ((hs.contains i = true → w' = w) ∧ (hs.contains i = false → (hs.all fun j => Region.waitsFor .any all.toArray i j) = true ∨ C w')) ∧ wpAnyH P .any all.toArray C hs (PQ P R k) g (listed.setIfInBounds i true) a' w' := fun a' w' hh => by
    simp only [wpList, PQ, Exit.then] at hh
    exact ⟨⟨fun h => (by rw [hn] at h; cases h), fun _ => hh.1⟩, hh.2⟩
  split at h
  · rename_i hw
    rw [if_pos hw]
    refine h.imp (fun hh => Oper.wp_upto hq (Oper.wp_mono key hh)) fun ⟨h1, a', w', h2⟩ => ⟨h1, a', w', ?_⟩
    rw [← hq _ (by simp)]
    exact h2
  · rename_i hw
    rw [if_neg hw]
    exact key _ _ h
/-- one operation can come next -/
theorem xt1 {g : Nat} (i : Nat) {listed : Array Bool} (hr : Region.ready .any all.toArray listed = [i]) (hn : hs.contains i = false) (h0 : all.toArray[i]? = some o)
    (h : PQ P R (.r all [o] :: .a (WA C all hs i) :: .j (wpAnyH P .any all.toArray C hs (PQ P R k) g (listed.setIfInBounds i true)) :: k) .normal a w) :
    wpAnyH P .any all.toArray C hs (PQ P R k) (g + 1) listed a w := by
  refine ⟨fun h1 => (by rw [hr] at h1; cases h1), fun j hj => ?_⟩
  rw [hr] at hj
  rw [List.mem_singleton.1 hj]
  exact xtO h0 hn h
/-- two operations can come next -/
theorem xt2 {g : Nat} (i i' : Nat) {o' : Oper} {listed : Array Bool} (hr : Region.ready .any all.toArray listed = [i, i']) (hn : hs.contains i = false) (hn' : hs.contains i' = false) (h0 : all.toArray[i]? = some o) (h0' : all.toArray[i']? = some o')
    (h : PQ P R (.r all [o] :: .a (WA C all hs i) :: .j (wpAnyH P .any all.toArray C hs (PQ P R k) g (listed.setIfInBounds i true)) :: k) .normal a w)
    (h' : PQ P R (.r all [o'] :: .a (WA C all hs i') :: .j (wpAnyH P .any all.toArray C hs (PQ P R k) g (listed.setIfInBounds i' true)) :: k) .normal a w) :
    wpAnyH P .any all.toArray C hs (PQ P R k) (g + 1) listed a w := by
  refine ⟨fun h1 => (by rw [hr] at h1; cases h1), fun j hj => ?_⟩
  rw [hr] at hj
  rcases List.mem_cons.1 hj with rfl | hj
  · exact xtO h0 hn h
  · rw [List.mem_singleton.1 hj]
    exact xtO h0' hn' h'
theorem xtS {Q : Exit → Act → World → Prop} : ∀ (os : List Oper) (i : Nat) (listed : Array Bool) (a : Act) (w : World), (∀ j, os[j]? = all.toArray[i + j]?) → Region.seqB .any all.toArray os.length i listed = true →
    (∀ m, i ≤ m → m < i + os.length → hs.contains m = false ∧ (hs.all fun j => Region.waitsFor .any all.toArray m j) = true) → wpList P all.toArray Q os a w → wpAnyH P .any all.toArray C hs Q os.length listed a w
  | [], i, listed, a, w, _, hB, _, h => ⟨by simpa [Region.seqB] using hB, h⟩
  | o :: os, i, listed, a, w, hl, hB, hw, h => by
    have h0 : all.toArray[i]? = some o := by simpa using (hl 0).symm
    simp only [List.length_cons, Region.seqB, Bool.and_eq_true, decide_eq_true_eq] at hB
    refine ⟨fun h1 => (by rw [hB.1] at h1; cases h1), fun j hj => ?_⟩
    rw [hB.1] at hj
    rw [List.mem_singleton.1 hj]
    obtain ⟨w1, w2⟩ := hw i (Nat.le_refl _) (by simp)
    have hop : wpOp P all.toArray Q i (wpList P all.toArray Q os) a w := by unfold wpOp; simp only [h0]; exact h
    exact wpOp_mono (fun a' w' h' => ⟨⟨fun h => (by rw [w1] at h; cases h), fun _ => .inl w2⟩, xtS os (i + 1) _ a' w' (fun j => by have := hl (j + 1); simpa [Nat.add_assoc, Nat.add_comm 1 j] using this) hB.2 (fun m h1 h2 => hw m (by omega) (by simp only [List.length_cons]; omega)) h'⟩) hop
/-- the rest stands in one order, behind all that look -/
theorem xt {g : Nat} (i : Nat) {listed : Array Bool} (os : List Oper) (he : all.drop i = os) (hg : os.length = g) (hB : (Region.seqB .any all.toArray g i listed && (List.range g).all fun m => !hs.contains (i + m) && hs.all fun j => Region.waitsFor .any all.toArray (i + m) j) = true)
    (h : PQ P R (.r all os :: k) .normal a w) : wpAnyH P .any all.toArray C hs (PQ P R k) g listed a w := by
  subst he
  subst hg
  simp only [Bool.and_eq_true] at hB
  refine xtS _ i listed a w (fun j => by simp [List.getElem?_drop]) hB.1 (fun m h1 h2 => ?_) (by simpa only [PQ, Exit.then] using h)
  have := List.all_eq_true.1 hB.2 (m - i) (by simp only [List.mem_range]; omega)
  rw [show i + (m - i) = m by omega] at this
  simpa using this
/-- what the heads looked at is still there -/
theorem xah {β0 : List Nat} {bx0 : BL} {tl0 : List Hp} {pre tp : _} {i : Nat} (S : St β u w a n l bx tl) (hβ : β0 <+: β) (wb0 : ∀ e ∈ bx0, e.1 < β0.length ∧ SV.wfs β0.length e.2.2) (hbx : bx = pre ++ bx0) (htl : tl = tp ++ tl0)
    (h : PQ P R k .normal a w) : PQ P R (.a (WA (fun w => SH u w (bhs β0 bx0 ++ tl0)) all hs i) :: k) .normal a w := by
  have := xas S hβ wb0 hbx htl h
  simp only [PQ, Exit.then] at this ⊢
  exact ⟨.inr this.1, this.2⟩
end
end Go.SX
set_option linter.unusedVariables false
set_option linter.unusedSimpArgs false
set_option linter.unusedSectionVars false
namespace Go
section
variable {P : Program} {C : World → Prop} {Q : Exit → Act → World → Prop}
def Region.moreB (md : Region.Mode) (ops : Array Oper) (hs is : List Nat) (listed : Array Bool) : Bool :=
  Region.noSelect ops && is.all (fun i => hs.contains i) && Region.lexHs md ops is listed
theorem wp_region_heads2 {id : Nat} {a : Act} {w : World} {l os : List Oper} (hs is : List Nat) (hm : P.follows .mixedOrders = true) (hB : Region.moreB .any l.toArray hs is (Array.replicate l.toArray.size false) = true) (hn : is.length ≤ l.length)
    (hQ : ∀ d v c a w, Q (.panic c) (a.put d v) w → Q (.panic c) a w) (hC : C { w with drawn := w.drawn + 1 }) (he : is.map (l.toArray[·]?) = os.map some)
    (h : wpPureL P l.toArray C (fun a' => wpAnyH P .any l.toArray C hs Q (l.length - is.length) (Region.mark is (Array.replicate l.toArray.size false)) a' { w with drawn := w.drawn + 1 }) os a) : (Code.region id l.toArray true).wp P Q a w := by
  simp only [Region.moreB, Bool.and_eq_true] at hB
  obtain ⟨⟨hsel, hin⟩, hl⟩ := hB
  refine wp_region_any hm (wpAny_of_H (C := C) (hs := hs) _ _ _ _ ?_)
  have := wpAnyH_lex (md := .any) (hs := hs) (g := l.length - is.length) hsel hQ hC is os _ a he (fun i hi => List.all_eq_true.1 hin i hi) hl h
  rw [show is.length + (l.length - is.length) = l.toArray.size by simp; omega] at this
  exact this
end
end Go
namespace Go.SX
section
variable {P : Program} {T : TT} (hT : TabOk P T) {R : Exit → Act → World → Prop} {C : World → Prop} {hs : List Nat} {β : List Nat} {bx : BL} {u w : World} {a : Act} {n : Nat} {l : EL} {tl : List Hp} {k : List TK} {all rest : List Oper} {o : Oper}
include hT
/-- a drawing region: the operations hs only look, at bx0 and tl0; those of is are taken at once -/
theorem xhs2 {fn : Func} {Post : Ending → World → Prop} (hs is : List Nat) {pre tp : _} (bx0 : BL) (tl0 : List Hp) (hbx : bx = pre ++ bx0) (htl : tl = tp ++ tl0) {id : Nat} {ops : List Oper} (S : St β u w a n l bx tl) (hB : (Region.moreB .any ops.toArray hs is (Array.replicate ops.toArray.size false) && decide (is.length ≤ ops.length)) = true)
    (he : is.map (ops.toArray[·]?) = (is.filterMap (ops.toArray[·]?)).map some) (ch : Bool) (ds : List Dn) {ds' l' cs'} (h : qrun T ch n tl0 ops bx0 ds (is.filterMap (ops.toArray[·]?)) l [] = ⟨ds', l', [], cs'⟩) (hc : allP cs')
    (hk : ∀ a' w', St β u w' a' n l' bx tl → wpAnyH P .any ops.toArray (fun w => SH u w (bhs β bx0 ++ tl0)) hs (PQ P (bodyPost P fn Post) k) (ops.length - is.length) (Region.mark is (Array.replicate ops.toArray.size false)) a' w') :
    PQ P (bodyPost P fn Post) (.c (.region id ⟨ops⟩ true) :: k) .normal a w := by
  have hsub : (bhs β bx0 ++ tl0).Sublist (bhs β bx ++ tl) := by
    subst hbx
    subst htl
    refine List.Sublist.append ?_ (List.sublist_append_right _ _)
    simp [bhs]
  have wb0 : ∀ e ∈ bx0, e.1 < β.length ∧ SV.wfs β.length e.2.2 := fun e he => S.wb e (by subst hbx; exact List.mem_append_right _ he)
  simp only [Bool.and_eq_true, decide_eq_true_eq] at hB
  simp only [PQ, Exit.then]
  refine wp_region_heads2 (C := fun w => SH u w (bhs β bx0 ++ tl0)) hs is hT.mixed hB.1 hB.2 (fun d v c a w h => PQ_panic body_panic k h) (S.sh.draw.sub hsub) he ?_
  exact qrunL_ok hT (S.sh.sub hsub) wb0 S.env h hc rfl fun a' E' => hk a' _ ⟨E', S.sh.draw, S.wb⟩
/-- more of them, later -/
theorem xth {fn : Func} {Post : Ending → World → Prop} {β0 : List Nat} {bx0 : BL} {tl0 : List Hp} {pre tp : _} (is : List Nat) {G : Nat} (g : Nat) (hg : G = is.length + g) {ops : List Oper} {listed : Array Bool} (S : St β u w a n l bx tl) (hβ : β0 <+: β) (wb0 : ∀ e ∈ bx0, e.1 < β0.length ∧ SV.wfs β0.length e.2.2) (hbx : bx = pre ++ bx0) (htl : tl = tp ++ tl0)
    (hB : Region.moreB .any ops.toArray hs is listed = true) (he : is.map (ops.toArray[·]?) = (is.filterMap (ops.toArray[·]?)).map some) (ch : Bool) (ds : List Dn) {ds' l' cs'} (h : qrun T ch n tl0 ops bx0 ds (is.filterMap (ops.toArray[·]?)) l [] = ⟨ds', l', [], cs'⟩) (hc : allP cs')
    (hk : ∀ a', St β u w a' n l' bx tl → wpAnyH P .any ops.toArray (fun w => SH u w (bhs β0 bx0 ++ tl0)) hs (PQ P (bodyPost P fn Post) k) g (Region.mark is listed) a' w) :
    wpAnyH P .any ops.toArray (fun w => SH u w (bhs β0 bx0 ++ tl0)) hs (PQ P (bodyPost P fn Post) k) G listed a w := by
  subst hg
  obtain ⟨r, rfl⟩ := hβ
  have hbe := bhs_pre r β0 wb0
  have hsub : (bhs (β0 ++ r) bx0 ++ tl0).Sublist (bhs (β0 ++ r) bx ++ tl) := by
    subst hbx
    subst htl
    refine List.Sublist.append ?_ (List.sublist_append_right _ _)
    simp [bhs]
  have wb1 : ∀ e ∈ bx0, e.1 < (β0 ++ r).length ∧ SV.wfs (β0 ++ r).length e.2.2 := fun e he => S.wb e (by subst hbx; exact List.mem_append_right _ he)
  simp only [Region.moreB, Bool.and_eq_true] at hB
  obtain ⟨⟨hsel, hin⟩, hl⟩ := hB
  rw [← hbe]
  rw [← hbe] at hk
  exact wpAnyH_lex hsel (fun d v c a w h => PQ_panic body_panic k h) (S.sh.sub hsub) is _ listed a he (fun i hi => List.all_eq_true.1 hin i hi) hl
    (qrunL_ok hT (S.sh.sub hsub) wb1 S.env h hc rfl fun a' E' => hk a' ⟨E', S.sh, S.wb⟩)
end
end Go.SX
set_option maxRecDepth 100000
set_option linter.unusedVariables false
set_option linter.unusedSectionVars false
namespace Go.SX
open Go.Proofs
variable {u w : World} {L B : List Hp} {b : Nat} {M : Hp}
theorem ext98 (x : Nat) (w : World) : (callFunc 98 #[.float .f32 x]).run Try.prog w = .ok (.value (.int .u32 x)) w := by
  have h : Try.prog.funcs[98]? = some Try.f98 := Try.func98
  simp only [callFunc, Sem.run_bind, run_program, Result.andThen_ok, h]
  rfl
theorem ext97 (x : Int) (w : World) : (callFunc 97 #[.int .u32 x]).run Try.prog w = .ok (.value (.float .f32 x.toNat)) w := by
  have h : Try.prog.funcs[97]? = some Try.f97 := Try.func97
  simp only [callFunc, Sem.run_bind, run_program, Result.andThen_ok, h]
  rfl
theorem andNot32 {x : Nat} (hx : x < 2 ^ 32) : bits2 .andNot .u32 x 2147483648 = (sz32 x : Nat) := by
  have h : (BitVec.ofInt 32 x &&& ~~~BitVec.ofInt 32 2147483648).toNat = x % 2 ^ 31 := by
    have e : ~~~BitVec.ofInt 32 2147483648 = BitVec.ofNat 32 (2 ^ 31 - 1) := by decide
    rw [e, BitVec.toNat_and]
    have e2 : (BitVec.ofInt 32 (x : Int)).toNat = x := by
      simp [BitVec.toNat_ofInt]
      omega
    rw [e2]
    have e3 : (BitVec.ofNat 32 (2 ^ 31 - 1)).toNat = 2 ^ 31 - 1 := by decide
    rw [e3, Nat.and_two_pow_sub_one_eq_mod]
  show IntKind.u32.wrap _ = _
  have h2 : (BitVec.ofInt IntKind.u32.bits (x : Int) &&& ~~~BitVec.ofInt IntKind.u32.bits 2147483648).toNat = x % 2 ^ 31 := h
  rw [h2]
  exact wrap_inR (by simp only [inR]; omega)
theorem c69 {x : Nat} (H : SH u w L) (hx : x < 2 ^ 32) : Ret Try.prog 69 [.float .f32 x] w (Pl u L fun v => v = .float .f32 (sz32 x)) := by
  refine ent Try.func69 rfl H 7 rfl [(0, .v (.float .f32 x))] rfl rfl fun a S => ?_
  refine xr hT S rfl false [] 200 rfl (by (repeat' apply And.intro); all_goals first | exact True.intro | with_reducible assumption | decide +kernel | with_reducible exact Option.isSome_some | omega | with_reducible exact decide_eq_true (by omega) | with_reducible exact decide_eq_false (by omega) | with_reducible exact beq_iff_eq.2 (by omega) | with_reducible exact beq_eq_false_iff_ne.2 (by omega) | with_reducible exact bne_iff_ne.2 (by omega) | with_reducible exact bne_eq_false_iff_eq.2 (by omega) | skip) fun β a w hβ hn S => ?_
  refine xe S rfl rfl rfl rfl rfl rfl (ext98 x) fun a w S => ?_
  refine xr hT S hn false [] 200 rfl (by (repeat' apply And.intro); all_goals first | exact True.intro | with_reducible assumption | decide +kernel | with_reducible exact Option.isSome_some | omega | with_reducible exact decide_eq_true (by omega) | with_reducible exact decide_eq_false (by omega) | with_reducible exact beq_iff_eq.2 (by omega) | with_reducible exact beq_eq_false_iff_ne.2 (by omega) | with_reducible exact bne_iff_ne.2 (by omega) | with_reducible exact bne_eq_false_iff_eq.2 (by omega) | skip) fun β a w hβ hn S => ?_
  refine xe S rfl rfl rfl rfl rfl rfl (ext97 _) fun a w S => ?_
  refine xr hT S hn false [] 200 rfl (by (repeat' apply And.intro); all_goals first | exact True.intro | with_reducible assumption | decide +kernel | with_reducible exact Option.isSome_some | omega | with_reducible exact decide_eq_true (by omega) | with_reducible exact decide_eq_false (by omega) | with_reducible exact beq_iff_eq.2 (by omega) | with_reducible exact beq_eq_false_iff_ne.2 (by omega) | with_reducible exact bne_iff_ne.2 (by omega) | with_reducible exact bne_eq_false_iff_eq.2 (by omega) | skip) fun β a w hβ hn S => ?_
  refine xret hT S rfl ⟨_, rfl, ?_, S.sh⟩
  rw [andNot32 hx]
  rfl
theorem c109 {a b : Cx} {e : Nat} (H : SH u w L) (h : MulD e a b) : Ret Try.prog 109 [.complex .f64 a.1 a.2, .complex .f64 b.1 b.2] w (Pl u L fun v => v = .complex .f64 (mulD a b).1 (mulD a b).2) := by
  obtain ⟨h1, h2, h3, h4, h5, h6, _⟩ := h
  refine ent Try.func109 rfl H 40 rfl [(0, .v (.complex .f64 a.1 a.2)), (1, .v (.complex .f64 b.1 b.2))] rfl rfl fun a S => ?_
  refine xr hT S rfl false [] 200 rfl (by (repeat' apply And.intro); all_goals first | exact True.intro | with_reducible assumption | decide +kernel | with_reducible exact Option.isSome_some | omega | with_reducible exact decide_eq_true (by omega) | with_reducible exact decide_eq_false (by omega) | with_reducible exact beq_iff_eq.2 (by omega) | with_reducible exact beq_eq_false_iff_ne.2 (by omega) | with_reducible exact bne_iff_ne.2 (by omega) | with_reducible exact bne_eq_false_iff_eq.2 (by omega) | skip) fun β a w hβ hn S => ?_
  exact xret hT S rfl ⟨_, rfl, rfl, S.sh⟩
theorem c108 {z : Cx} (H : SH u w L) (h1 : floatToFloatBits .f64 z.1 .f32 = some (nw z.1)) (h2 : floatToFloatBits .f64 z.2 .f32 = some (nw z.2)) : Ret Try.prog 108 [.complex .f64 z.1 z.2] w (Pl u L fun v => v = .complex .f32 (nwC z).1 (nwC z).2) := by
  refine ent Try.func108 rfl H 10 rfl [(0, .v (.complex .f64 z.1 z.2))] rfl rfl fun a S => ?_
  refine xr hT S rfl false [] 200 rfl ?_ fun β a w hβ hn S => ?_
  · (repeat' apply And.intro); all_goals first | exact True.intro | with_reducible assumption | decide +kernel | with_reducible exact Option.isSome_some | omega | with_reducible exact decide_eq_true (by omega) | with_reducible exact decide_eq_false (by omega) | with_reducible exact beq_iff_eq.2 (by omega) | with_reducible exact beq_eq_false_iff_ne.2 (by omega) | with_reducible exact bne_iff_ne.2 (by omega) | with_reducible exact bne_eq_false_iff_eq.2 (by omega) | skip
    · rw [h2]; rfl
    · rw [h1]; rfl
  exact xret hT S rfl ⟨_, rfl, rfl, S.sh⟩
theorem c94m {e : Nat} {z : Cx} (H : SH u w L) (hz : MC e z) : Ret Try.prog 94 [.complex .f32 z.1 z.2] w (Pl u L fun v => v = .complex .f64 (wdC z).1 (wdC z).2) := c94 H hz.1.num hz.2.num hz.1.lt32 hz.2.lt32
theorem c100 {e : Nat} {a b : Cx} (H : SH u w L) (ha : MC e a) (hb : MC 0 b) (he : e + 1 ≤ 127) : Ret Try.prog 100 [.complex .f32 a.1 a.2, .complex .f32 b.1 b.2] w (Pl u L fun v => v = .complex .f32 (mulS a b).1 (mulS a b).2) := by
  have wa := ha.wide (by omega)
  have wb := hb.wide (by decide)
  have hm := wa.1.mul wb.1 (by omega)
  have hw := hm.out.narrow he
  refine ent Try.func100 rfl H 11 rfl [(0, .v (.complex .f32 a.1 a.2)), (1, .v (.complex .f32 b.1 b.2))] rfl rfl fun ac S => ?_
  refine xr hT S rfl false [] 200 rfl (by (repeat' apply And.intro); all_goals first | exact True.intro | with_reducible assumption | decide +kernel | with_reducible exact Option.isSome_some | omega | with_reducible exact decide_eq_true (by omega) | with_reducible exact decide_eq_false (by omega) | with_reducible exact beq_iff_eq.2 (by omega) | with_reducible exact beq_eq_false_iff_ne.2 (by omega) | with_reducible exact bne_iff_ne.2 (by omega) | with_reducible exact bne_eq_false_iff_eq.2 (by omega) | skip) fun β ac w hβ hn S => ?_
  refine xP S rfl rfl rfl rfl rfl rfl en94 (fun H => c94m H ha) fun v ac w hv S => ?_
  subst hv
  refine xr hT S hn false [] 200 rfl (by (repeat' apply And.intro); all_goals first | exact True.intro | with_reducible assumption | decide +kernel | with_reducible exact Option.isSome_some | omega | with_reducible exact decide_eq_true (by omega) | with_reducible exact decide_eq_false (by omega) | with_reducible exact beq_iff_eq.2 (by omega) | with_reducible exact beq_eq_false_iff_ne.2 (by omega) | with_reducible exact bne_iff_ne.2 (by omega) | with_reducible exact bne_eq_false_iff_eq.2 (by omega) | skip) fun β ac w hβ hn S => ?_
  refine xP S rfl rfl rfl rfl rfl rfl en94 (fun H => c94m H hb) fun v ac w hv S => ?_
  subst hv
  refine xP S rfl rfl rfl rfl rfl rfl en109 (fun H => c109 H hm) fun v ac w hv S => ?_
  subst hv
  refine xP S rfl rfl rfl rfl rfl rfl en108 (fun H => c108 H hw.2.1 hw.2.2) fun v ac w hv S => ?_
  subst hv
  refine xr hT S hn false [] 200 rfl (by (repeat' apply And.intro); all_goals first | exact True.intro | with_reducible assumption | decide +kernel | with_reducible exact Option.isSome_some | omega | with_reducible exact decide_eq_true (by omega) | with_reducible exact decide_eq_false (by omega) | with_reducible exact beq_iff_eq.2 (by omega) | with_reducible exact beq_eq_false_iff_ne.2 (by omega) | with_reducible exact bne_iff_ne.2 (by omega) | with_reducible exact bne_eq_false_iff_eq.2 (by omega) | skip) fun β ac w hβ hn S => ?_
  exact xret hT S rfl ⟨_, rfl, rfl, S.sh⟩
theorem c75 {e x : Nat} {z : Cx} (H : SH u w L) (h : ScS e z x) : Ret Try.prog 75 [.complex .f32 z.1 z.2, .float .f32 x] w (Pl u L fun v => v = .complex .f32 (scS z x).1 (scS z x).2) := by
  obtain ⟨h1, h2, _⟩ := h
  refine ent Try.func75 rfl H 14 rfl [(0, .v (.complex .f32 z.1 z.2)), (1, .v (.float .f32 x))] rfl rfl fun a S => ?_
  refine xr hT S rfl false [] 200 rfl (by (repeat' apply And.intro); all_goals first | exact True.intro | with_reducible assumption | decide +kernel | with_reducible exact Option.isSome_some | omega | with_reducible exact decide_eq_true (by omega) | with_reducible exact decide_eq_false (by omega) | with_reducible exact beq_iff_eq.2 (by omega) | with_reducible exact beq_eq_false_iff_ne.2 (by omega) | with_reducible exact bne_iff_ne.2 (by omega) | with_reducible exact bne_eq_false_iff_eq.2 (by omega) | skip) fun β a w hβ hn S => ?_
  exact xret hT S rfl ⟨_, rfl, rfl, S.sh⟩
theorem c99 {e : Nat} {a b : Cx} (H : SH u w L) (h : AddS e a b) : Ret Try.prog 99 [.complex .f32 a.1 a.2, .complex .f32 b.1 b.2] w (Pl u L fun v => v = .complex .f32 (addS a b).1 (addS a b).2) := by
  obtain ⟨h1, h2, _⟩ := h
  refine ent Try.func99 rfl H 16 rfl [(0, .v (.complex .f32 a.1 a.2)), (1, .v (.complex .f32 b.1 b.2))] rfl rfl fun a S => ?_
  refine xr hT S rfl false [] 200 rfl (by (repeat' apply And.intro); all_goals first | exact True.intro | with_reducible assumption | decide +kernel | with_reducible exact Option.isSome_some | omega | with_reducible exact decide_eq_true (by omega) | with_reducible exact decide_eq_false (by omega) | with_reducible exact beq_iff_eq.2 (by omega) | with_reducible exact beq_eq_false_iff_ne.2 (by omega) | with_reducible exact bne_iff_ne.2 (by omega) | with_reducible exact bne_eq_false_iff_eq.2 (by omega) | skip) fun β a w hβ hn S => ?_
  exact xret hT S rfl ⟨_, rfl, rfl, S.sh⟩
theorem c70 {m : Md} {s : Cx} {x e : Nat} (H : SH u w L) (hm : Gm m) (hs : MC e s) (hx : Mf .f32 20 x) (h31 : 31 ≤ e) (he : e + 2 ≤ 127) :
    Ret Try.prog 70 [.agg m.cells.toArray, .complex .f32 s.1 s.2, .float .f32 x] w (Pl u L fun v => v = .complex .f32 (stepM m s x).1 (stepM m s x).2) := by
  have h1 := hm.gain.scale hx (by decide)
  have h0 := mulS_ok hs hm.pole (by omega)
  obtain ⟨z1, e1⟩ : ∃ z, z = mulS s (m.pr, m.pi) := ⟨_, rfl⟩
  obtain ⟨z2, e2⟩ : ∃ z, z = scS (m.gr, m.gi) x := ⟨_, rfl⟩
  obtain ⟨z3, e3⟩ : ∃ z, z = addS z1 z2 := ⟨_, rfl⟩
  have k1 : ∀ {w L}, SH u w L → Ret Try.prog 100 [.complex .f32 s.1 s.2, .complex .f32 m.pr m.pi] w (Pl u L fun v => v = .complex .f32 z1.1 z1.2) := fun H => by rw [e1]; exact c100 H hs hm.pole (by omega)
  have k2 : ∀ {w L}, SH u w L → Ret Try.prog 75 [.complex .f32 m.gr m.gi, .float .f32 x] w (Pl u L fun v => v = .complex .f32 z2.1 z2.2) := fun H => by rw [e2]; exact c75 H h1
  have k3 : ∀ {w L}, SH u w L → Ret Try.prog 99 [.complex .f32 z1.1 z1.2, .complex .f32 z2.1 z2.2] w (Pl u L fun v => v = .complex .f32 z3.1 z3.2) := fun H => by
    rw [e3]
    exact c99 H (MC.add (by rw [e1]; exact h0) (by rw [e2]; exact h1.out.mono (by omega)) (by omega))
  have e4 : stepM m s x = z3 := by rw [e3, e1, e2]; rfl
  rw [e4]
  clear e1 e2 e3 e4 h0 h1
  refine ent Try.func70 rfl H 16 rfl [(0, .v (.agg m.cells.toArray)), (1, .v (.complex .f32 s.1 s.2)), (2, .v (.float .f32 x))] rfl rfl fun a S => ?_
  refine xr hT S rfl false [] 200 rfl (by (repeat' apply And.intro); all_goals first | exact True.intro | with_reducible assumption | decide +kernel | with_reducible exact Option.isSome_some | omega | with_reducible exact decide_eq_true (by omega) | with_reducible exact decide_eq_false (by omega) | with_reducible exact beq_iff_eq.2 (by omega) | with_reducible exact beq_eq_false_iff_ne.2 (by omega) | with_reducible exact bne_iff_ne.2 (by omega) | with_reducible exact bne_eq_false_iff_eq.2 (by omega) | skip) fun β a w hβ hn S => ?_
  refine xda hT S (by decide +kernel) fun E => ?_
  refine xqr hT S false [] E rfl (by (repeat' apply And.intro); all_goals first | exact True.intro | with_reducible assumption | decide +kernel | with_reducible exact Option.isSome_some | omega | with_reducible exact decide_eq_true (by omega) | with_reducible exact decide_eq_false (by omega) | with_reducible exact beq_iff_eq.2 (by omega) | with_reducible exact beq_eq_false_iff_ne.2 (by omega) | with_reducible exact bne_iff_ne.2 (by omega) | with_reducible exact bne_eq_false_iff_eq.2 (by omega) | skip) fun a E => ?_
  refine xqc E rfl rfl rfl rfl rfl en100 (fun w H => k1 H) fun a E => ?_
  refine xqr hT S false [] E rfl (by (repeat' apply And.intro); all_goals first | exact True.intro | with_reducible assumption | decide +kernel | with_reducible exact Option.isSome_some | omega | with_reducible exact decide_eq_true (by omega) | with_reducible exact decide_eq_false (by omega) | with_reducible exact beq_iff_eq.2 (by omega) | with_reducible exact beq_eq_false_iff_ne.2 (by omega) | with_reducible exact bne_iff_ne.2 (by omega) | with_reducible exact bne_eq_false_iff_eq.2 (by omega) | skip) fun a E => ?_
  refine xqc E rfl rfl rfl rfl rfl en75 (fun w H => k2 H) fun a E => ?_
  refine xqr hT S false [] E rfl (by (repeat' apply And.intro); all_goals first | exact True.intro | with_reducible assumption | decide +kernel | with_reducible exact Option.isSome_some | omega | with_reducible exact decide_eq_true (by omega) | with_reducible exact decide_eq_false (by omega) | with_reducible exact beq_iff_eq.2 (by omega) | with_reducible exact beq_eq_false_iff_ne.2 (by omega) | with_reducible exact bne_iff_ne.2 (by omega) | with_reducible exact bne_eq_false_iff_eq.2 (by omega) | skip) fun a E => ?_
  refine xqc E rfl rfl rfl rfl rfl en99 (fun w H => k3 H) fun a E => ?_
  refine xqr hT S false [] E rfl (by (repeat' apply And.intro); all_goals first | exact True.intro | with_reducible assumption | decide +kernel | with_reducible exact Option.isSome_some | omega | with_reducible exact decide_eq_true (by omega) | with_reducible exact decide_eq_false (by omega) | with_reducible exact beq_iff_eq.2 (by omega) | with_reducible exact beq_eq_false_iff_ne.2 (by omega) | with_reducible exact bne_iff_ne.2 (by omega) | with_reducible exact bne_eq_false_iff_eq.2 (by omega) | skip) fun a E => ?_
  refine wpQuiet_nil fun w H => ?_
  have S : St _ _ _ _ _ _ _ _ := ⟨E, H, S.wb⟩
  refine xr hT S hn false [] 200 rfl (by (repeat' apply And.intro); all_goals first | exact True.intro | with_reducible assumption | decide +kernel | with_reducible exact Option.isSome_some | omega | with_reducible exact decide_eq_true (by omega) | with_reducible exact decide_eq_false (by omega) | with_reducible exact beq_iff_eq.2 (by omega) | with_reducible exact beq_eq_false_iff_ne.2 (by omega) | with_reducible exact bne_iff_ne.2 (by omega) | with_reducible exact bne_eq_false_iff_eq.2 (by omega) | skip) fun β a w hβ hn S => ?_
  exact xret hT S rfl ⟨_, rfl, rfl, S.tl'⟩
/-- the limiter -/
theorem c44 {env x ce rel : Nat} (H : SH u w L) (hx : x < 2 ^ 32) (h1 : (floatBits .mul .f32 env rel).isSome = true)
    (h2 : fcmp .gtr .f32 (limE env x rel) ce = true → (floatBits .mul .f32 x ce).isSome = true ∧ (floatBits .quo .f32 (fop .mul .f32 x ce) (limE env x rel)).isSome = true) :
    Ret Try.prog 44 [.float .f32 env, .float .f32 x, .float .f32 ce, .float .f32 rel] w (Pl u L fun v => v = .tuple #[.float .f32 (limX env x ce rel), .float .f32 (limE env x rel)]) := by
  refine ent Try.func44 rfl H 33 rfl [(0, .v (.float .f32 env)), (1, .v (.float .f32 x)), (2, .v (.float .f32 ce)), (3, .v (.float .f32 rel))] rfl rfl fun a S => ?_
  refine xr hT S rfl false [] 200 rfl (by (repeat' apply And.intro); all_goals first | exact True.intro | with_reducible assumption | decide +kernel | with_reducible exact Option.isSome_some | omega | with_reducible exact decide_eq_true (by omega) | with_reducible exact decide_eq_false (by omega) | with_reducible exact beq_iff_eq.2 (by omega) | with_reducible exact beq_eq_false_iff_ne.2 (by omega) | with_reducible exact bne_iff_ne.2 (by omega) | with_reducible exact bne_eq_false_iff_eq.2 (by omega) | skip) fun β a w hβ hn S => ?_
  refine xP S rfl rfl rfl rfl rfl rfl en69 (fun H => c69 H hx) fun v a w hv S => ?_
  subst hv
  refine xr hT S hn false [] 4 rfl (by (repeat' apply And.intro); all_goals first | exact True.intro | with_reducible assumption | decide +kernel | with_reducible exact Option.isSome_some | omega | with_reducible exact decide_eq_true (by omega) | with_reducible exact decide_eq_false (by omega) | with_reducible exact beq_iff_eq.2 (by omega) | with_reducible exact beq_eq_false_iff_ne.2 (by omega) | with_reducible exact bne_iff_ne.2 (by omega) | with_reducible exact bne_eq_false_iff_eq.2 (by omega) | skip) fun β a w hβ hn S => ?_
  refine xcut (fun a w => ∃ β, β.length = 0 ∧ St β u w a 33 [(1, .v (.float .f32 x)), (2, .v (.float .f32 ce)), (10, .v (.float .f32 (limE env x rel)))] [] L) ?_ fun a w ⟨β, hn, S⟩ => ?_
  · cases hc : fcmp .gtr .f32 (sz32 x) (fop .mul .f32 env rel)
    · refine xr hT S hn false [.b false] 200 rfl (by (repeat' apply And.intro); all_goals first | exact True.intro | with_reducible assumption | decide +kernel | with_reducible exact Option.isSome_some | omega | with_reducible exact decide_eq_true (by omega) | with_reducible exact decide_eq_false (by omega) | with_reducible exact beq_iff_eq.2 (by omega) | with_reducible exact beq_eq_false_iff_ne.2 (by omega) | with_reducible exact bne_iff_ne.2 (by omega) | with_reducible exact bne_eq_false_iff_eq.2 (by omega) | skip) fun β a w hβ hn S => ?_
      have e : limE env x rel = fop .mul .f32 env rel := by unfold limE; rw [hc]; rfl
      rw [e]
      exact xj ⟨β, hn, S.keep [1, 2, 10] rfl⟩
    · refine xr hT S hn false [.b true] 200 rfl (by (repeat' apply And.intro); all_goals first | exact True.intro | with_reducible assumption | decide +kernel | with_reducible exact Option.isSome_some | omega | with_reducible exact decide_eq_true (by omega) | with_reducible exact decide_eq_false (by omega) | with_reducible exact beq_iff_eq.2 (by omega) | with_reducible exact beq_eq_false_iff_ne.2 (by omega) | with_reducible exact bne_iff_ne.2 (by omega) | with_reducible exact bne_eq_false_iff_eq.2 (by omega) | skip) fun β a w hβ hn S => ?_
      refine xP S rfl rfl rfl rfl rfl rfl en69 (fun H => c69 H hx) fun v a w hv S => ?_
      subst hv
      refine xr hT S hn false [] 200 rfl (by (repeat' apply And.intro); all_goals first | exact True.intro | with_reducible assumption | decide +kernel | with_reducible exact Option.isSome_some | omega | with_reducible exact decide_eq_true (by omega) | with_reducible exact decide_eq_false (by omega) | with_reducible exact beq_iff_eq.2 (by omega) | with_reducible exact beq_eq_false_iff_ne.2 (by omega) | with_reducible exact bne_iff_ne.2 (by omega) | with_reducible exact bne_eq_false_iff_eq.2 (by omega) | skip) fun β a w hβ hn S => ?_
      have e : limE env x rel = sz32 x := by unfold limE; rw [hc]; rfl
      rw [e]
      exact xj ⟨β, hn, S.keep [1, 2, 10] rfl⟩
  · cases hc : fcmp .gtr .f32 (limE env x rel) ce
    · refine xr hT S hn false [.b false] 200 rfl (by (repeat' apply And.intro); all_goals first | exact True.intro | with_reducible assumption | decide +kernel | with_reducible exact Option.isSome_some | omega | with_reducible exact decide_eq_true (by omega) | with_reducible exact decide_eq_false (by omega) | with_reducible exact beq_iff_eq.2 (by omega) | with_reducible exact beq_eq_false_iff_ne.2 (by omega) | with_reducible exact bne_iff_ne.2 (by omega) | with_reducible exact bne_eq_false_iff_eq.2 (by omega) | skip) fun β a w hβ hn S => ?_
      have e : limX env x ce rel = x := by unfold limX; rw [hc]; rfl
      rw [e]
      exact xret hT S rfl ⟨_, rfl, rfl, S.sh⟩
    · obtain ⟨h3, h4⟩ := h2 hc
      refine xr hT S hn false [.b true] 200 rfl (by (repeat' apply And.intro); all_goals first | exact True.intro | with_reducible assumption | decide +kernel | with_reducible exact Option.isSome_some | omega | with_reducible exact decide_eq_true (by omega) | with_reducible exact decide_eq_false (by omega) | with_reducible exact beq_iff_eq.2 (by omega) | with_reducible exact beq_eq_false_iff_ne.2 (by omega) | with_reducible exact bne_iff_ne.2 (by omega) | with_reducible exact bne_eq_false_iff_eq.2 (by omega) | skip) fun β a w hβ hn S => ?_
      have e : limX env x ce rel = fop .quo .f32 (fop .mul .f32 x ce) (limE env x rel) := by unfold limX; rw [hc]; rfl
      rw [e]
      exact xret hT S rfl ⟨_, rfl, rfl, S.sh⟩
end Go.SX
set_option maxRecDepth 100000
set_option linter.unusedVariables false
set_option linter.unusedSectionVars false
namespace Go.SX
open Go.Proofs
variable {u w : World} {L B : List Hp} {b : Nat} {M : Hp}
def fV (x : Nat) : Value := .float .f32 x
def cV (z : Cx) : Value := .complex .f32 z.1 z.2
theorem Rows.cell {L : List Hp} {ad : Addr} {n c : Nat} {vs : List Value} (h : Rows L (some ad) n 1 vs) {j : Nat} {v : Value} (hj : vs[j]? = some v) : RdV L (ad.add (Int.toNat (j : Int) * 1)) [v] := by
  rw [Int.toNat_natCast]
  exact (h.2.2 ad rfl).at1 hj
theorem Rows.len1 {L : List Hp} {A : Option Addr} {n : Nat} {vs : List Value} (h : Rows L A n 1 vs) : vs.length = n := by rw [h.1, Nat.mul_one]
theorem c47 {A : Option Addr} {n c : Nat} {xs : List Nat} (H : SH u w L) (hR : Rows L A n 1 (xs.map fV)) (hn : n ≤ 100) : Ret Try.prog 47 [.slice A n c, .int .i64 0] w (Pl u L fun v => v = fV (xs.headD 0)) := by
  refine ent Try.func47 rfl H 13 rfl [(0, .v (.slice A n c)), (1, .v (.int .i64 0))] rfl rfl fun a S => ?_
  have hl := hR.len1
  rw [List.length_map] at hl
  cases xs with
  | nil =>
    simp only [List.length_nil] at hl
    refine xr hT S rfl true [.b false] 200 rfl (by (repeat' apply And.intro); all_goals first | exact True.intro | with_reducible assumption | decide +kernel | with_reducible exact Option.isSome_some | omega | with_reducible exact decide_eq_true (by omega) | with_reducible exact decide_eq_false (by omega) | with_reducible exact beq_iff_eq.2 (by omega) | with_reducible exact beq_eq_false_iff_ne.2 (by omega) | with_reducible exact bne_iff_ne.2 (by omega) | with_reducible exact bne_eq_false_iff_eq.2 (by omega) | skip) fun β a w hβ hn S => ?_
    exact xret hT S rfl ⟨_, rfl, rfl, S.sh⟩
  | cons x r =>
    simp only [List.length_cons] at hl
    obtain ⟨ad, rfl⟩ := hR.2.1 (by omega)
    refine xr hT S rfl true [.b true, .v [fV x]] 200 rfl ?_ fun β a w hβ hn S => ?_
    · (repeat' apply And.intro); all_goals first | exact True.intro | with_reducible assumption | decide +kernel | with_reducible exact Option.isSome_some | omega | with_reducible exact decide_eq_true (by omega) | with_reducible exact decide_eq_false (by omega) | with_reducible exact beq_iff_eq.2 (by omega) | with_reducible exact beq_eq_false_iff_ne.2 (by omega) | with_reducible exact bne_iff_ne.2 (by omega) | with_reducible exact bne_eq_false_iff_eq.2 (by omega) | skip
      exact hR.cell (j := 0) (n := n) (c := 0) rfl
    exact xret hT S rfl ⟨_, rfl, rfl, S.sh⟩
theorem c45 {A : Option Addr} {n c e : Nat} {xs : List Nat} (H : SH u w L) (hR : Rows L A n 1 (xs.map fV)) (hb : ∀ x ∈ xs, Mf .f32 e x) (hn : e + n ≤ 127) : Ret Try.prog 45 [.slice A n c] w (Pl u L fun v => v = fV (sum32 0 xs)) := by
  have hlen := hR.len1
  rw [List.length_map] at hlen
  refine ent Try.func45 rfl H 17 rfl [(0, .v (.slice A n c))] rfl rfl fun a S => ?_
  refine xr hT S rfl true [] 200 rfl (by (repeat' apply And.intro); all_goals first | exact True.intro | with_reducible assumption | decide +kernel | with_reducible exact Option.isSome_some | omega | with_reducible exact decide_eq_true (by omega) | with_reducible exact decide_eq_false (by omega) | with_reducible exact beq_iff_eq.2 (by omega) | with_reducible exact beq_eq_false_iff_ne.2 (by omega) | with_reducible exact bne_iff_ne.2 (by omega) | with_reducible exact bne_eq_false_iff_eq.2 (by omega) | skip) fun β a w hβ hl S => ?_
  refine xloop (fun (i : Nat) a w => ∃ β, β.length = 0 ∧ i ≤ n ∧ St β u w a 17 [(3, .v (fV (sum32 0 (xs.take i)))), (6, .v (.slice A n c)), (7, .v (.int .i64 n)), (8, .v (.int .i64 (i : Int)))] [] L) (fun i => n - i) 0 ⟨β, hl, Nat.zero_le _, S.keep [3, 6, 7, 8] rfl⟩ fun i a w ⟨β, hl, hi, S⟩ => ?_
  by_cases hin : i < n
  · obtain ⟨ad, rfl⟩ := hR.2.1 (by omega)
    have hix : i < xs.length := by omega
    have hgx : (xs.map fV)[i]? = some (fV xs[i]) := by simp [hix]
    have hadd := sum32_add (xs := xs.take i) (x := xs[i]) (fun y hy => hb y (List.mem_of_mem_take hy)) (hb _ (List.getElem_mem hix)) (by rw [List.length_take]; omega) (mf_zero 0)
    refine xr hT S hl true [.b true, .v [fV xs[i]]] 200 rfl ?_ fun β a w hβ hl S => ?_
    · (repeat' apply And.intro); all_goals first | exact True.intro | with_reducible assumption | decide +kernel | with_reducible exact Option.isSome_some | omega | with_reducible exact decide_eq_true (by omega) | with_reducible exact decide_eq_false (by omega) | with_reducible exact beq_iff_eq.2 (by omega) | with_reducible exact beq_eq_false_iff_ne.2 (by omega) | with_reducible exact bne_iff_ne.2 (by omega) | with_reducible exact bne_eq_false_iff_eq.2 (by omega) | skip
      exact hR.cell (n := n) (c := 0) hgx
    have ei : (i : Int) + 1 = ((i + 1 : Nat) : Int) := by omega
    have es : fop .add .f32 (sum32 0 (xs.take i)) xs[i] = sum32 0 (xs.take (i + 1)) := by
      rw [List.take_add_one, List.getElem?_eq_getElem hix, ← sum32_snoc]
      rfl
    have S := S.keep [3, 6, 7, 8] rfl
    rw [es, ei] at S
    exact xj ⟨i + 1, ⟨β, hl, by omega, S⟩, by omega⟩
  · refine xr hT S hl true [.b false] 200 rfl (by (repeat' apply And.intro); all_goals first | exact True.intro | with_reducible assumption | decide +kernel | with_reducible exact Option.isSome_some | omega | with_reducible exact decide_eq_true (by omega) | with_reducible exact decide_eq_false (by omega) | with_reducible exact beq_iff_eq.2 (by omega) | with_reducible exact beq_eq_false_iff_ne.2 (by omega) | with_reducible exact bne_iff_ne.2 (by omega) | with_reducible exact bne_eq_false_iff_eq.2 (by omega) | skip) fun β a w hβ hl S => ?_
    have es : xs.take i = xs := List.take_of_length_le (by omega)
    rw [es] at S
    exact xret hT S rfl ⟨_, rfl, rfl, S.sh⟩
theorem cV_len (z : Cx) : [cV z].length = 1 := rfl
/-- the states, stepped -/
theorem c48 {A As : Option Addr} {n c cs e x : Nat} {ms : List Md} {ss : List Cx} (H : SH u w (M :: L)) (hR : Rows L A n 2 (ms.flatMap Md.cells)) (hO : Own M 96 1 (.slice As n cs) n (ss.map cV)) (hlm : ms.length = n) (hls : ss.length = n)
    (hm : ∀ m ∈ ms, Gm m) (hs : ∀ s ∈ ss, MC e s) (hx : Mf .f32 20 x) (h0 : 31 ≤ e) (he : e + 2 + n ≤ 127) :
    Ret Try.prog 48 [.slice A n c, .slice As n cs, .float .f32 x] w fun v w' => v = fV (sumR 0 (stepL ms ss x)) ∧ ∃ M, Own M 96 1 (.slice As n cs) n ((stepL ms ss x).map cV) ∧ SH u w' (M :: L) := by
  refine ent Try.func48 rfl H 36 rfl [(0, .v (.slice A n c)), (1, .v (.slice As n cs)), (2, .v (.float .f32 x))] rfl rfl fun a S => ?_
  refine xr hT S rfl true [] 200 rfl (by (repeat' apply And.intro); all_goals first | exact True.intro | with_reducible assumption | decide +kernel | with_reducible exact Option.isSome_some | omega | with_reducible exact decide_eq_true (by omega) | with_reducible exact decide_eq_false (by omega) | with_reducible exact beq_iff_eq.2 (by omega) | with_reducible exact beq_eq_false_iff_ne.2 (by omega) | with_reducible exact bne_iff_ne.2 (by omega) | with_reducible exact bne_eq_false_iff_eq.2 (by omega) | skip) fun β a w hβ hl S => ?_
  refine xloop (fun (i : Nat) a w => ∃ β M, β.length = 0 ∧ i ≤ n ∧ Own M 96 1 (.slice As n cs) n ((mixL x i ms ss).map cV) ∧ St β u w a 36 [(1, .v (.slice As n cs)), (2, .v (.float .f32 x)), (7, .v (fV (sumR 0 ((mixL x i ms ss).take i)))), (10, .v (.slice A n c)), (11, .v (.int .i64 n)), (12, .v (.int .i64 (i : Int)))] [] (M :: L)) (fun i => n - i) 0
    ⟨β, M, hl, Nat.zero_le _, by rw [mixL_zero]; exact hO, S.keep [1, 2, 7, 10, 11, 12] rfl⟩ fun i a w ⟨β, M, hl, hi, hO, S⟩ => ?_
  by_cases hin : i < n
  · obtain ⟨ad, rfl⟩ := hR.2.1 (by omega)
    obtain ⟨g, c', hv⟩ := hO.pos (by omega)
    obtain ⟨rfl, rfl⟩ : As = some ⟨g, 0, none⟩ ∧ cs = c' := by cases hv; exact ⟨rfl, rfl⟩
    have him : i < ms.length := by omega
    have his : i < ss.length := by omega
    have hcm : RdV (M :: L) (ad.add (Int.toNat (i : Int) * 2)) ms[i].cells := by
      rw [Int.toNat_natCast]
      exact ((hR.2.2 ad rfl).mono (List.subset_cons_self _ _)).elem md_len him
    have hcs : ∀ {M : Hp} {xs : List Value} {v : Value}, Own M 96 1 (.slice (some ⟨g, 0, none⟩) n cs) n xs → xs[i]? = some v → RdV (M :: L) (Addr.add ⟨g, 0, none⟩ (Int.toNat (i : Int) * 1)) [v] := by
      intro M xs v hO hv
      rw [Int.toNat_natCast]
      exact (hO.cells rfl List.mem_cons_self).at1 hv
    have hgs : ((mixL x i ms ss).map cV)[i]? = some (cV ss[i]) := by rw [List.getElem?_map, mixL_at, List.getElem?_eq_getElem his]; rfl
    refine xr hT S hl true [.b true, .v (ms[i]).cells] 200 rfl ?_ fun β a w hβ hl S => ?_
    · (repeat' apply And.intro); all_goals first | exact True.intro | with_reducible assumption | decide +kernel | with_reducible exact Option.isSome_some | omega | with_reducible exact decide_eq_true (by omega) | with_reducible exact decide_eq_false (by omega) | with_reducible exact beq_iff_eq.2 (by omega) | with_reducible exact beq_eq_false_iff_ne.2 (by omega) | with_reducible exact bne_iff_ne.2 (by omega) | with_reducible exact bne_eq_false_iff_eq.2 (by omega) | skip
    refine xdr hT S (n0 := 10) (by decide +kernel) fun E => ?_
    refine xqr hT S true [.v [cV ss[i]]] E rfl ?_ fun a E => ?_
    · (repeat' apply And.intro); all_goals first | exact True.intro | with_reducible assumption | decide +kernel | with_reducible exact Option.isSome_some | omega | with_reducible exact decide_eq_true (by omega) | with_reducible exact decide_eq_false (by omega) | with_reducible exact beq_iff_eq.2 (by omega) | with_reducible exact beq_eq_false_iff_ne.2 (by omega) | with_reducible exact bne_iff_ne.2 (by omega) | with_reducible exact bne_eq_false_iff_eq.2 (by omega) | skip
      exact hcs hO hgs
    refine xqc E rfl rfl rfl rfl rfl en70 (fun w H => c70 H (hm _ (List.getElem_mem him)) (hs _ (List.getElem_mem his)) hx h0 (by omega)) fun a E => ?_
    refine xqr hT S true [] E rfl (by (repeat' apply And.intro); all_goals first | exact True.intro | with_reducible assumption | decide +kernel | with_reducible exact Option.isSome_some | omega | with_reducible exact decide_eq_true (by omega) | with_reducible exact decide_eq_false (by omega) | with_reducible exact beq_iff_eq.2 (by omega) | with_reducible exact beq_eq_false_iff_ne.2 (by omega) | with_reducible exact bne_iff_ne.2 (by omega) | with_reducible exact bne_eq_false_iff_eq.2 (by omega) | skip) fun a E => ?_
    refine wpQuiet_nil fun w H => ?_
    have S : St _ _ _ _ _ _ _ _ := ⟨E, H, S.wb⟩
    refine xset hT S rfl rfl rfl rfl rfl (add0 g _) hO rfl rfl rfl (by rw [List.length_map, mixL_len]; show Int.toNat (i : Int) * 1 + 1 ≤ _; rw [Int.toNat_natCast]; omega) fun M a w hO S => ?_
    have hO : Own M 96 1 (.slice (some ⟨g, 0, none⟩) n cs) n ((mixL x (i + 1) ms ss).map cV) := by
      rw [← mixL_set i ms ss him his, List.map_set, List.set_eq_take_append_cons_drop, if_pos (by rw [List.length_map, mixL_len]; exact his)]
      simp only [Int.toNat_natCast, Nat.mul_one] at hO
      rw [List.append_assoc] at hO
      exact hO
    have hgn : ((mixL x (i + 1) ms ss).map cV)[i]? = some (cV (stepM ms[i] ss[i] x)) := by
      rw [← mixL_set i ms ss him his, List.getElem?_map, List.getElem?_set_self (by rw [mixL_len]; exact his)]
      rfl
    have hadd := sum32_add (e := e + 2) (xs := ((mixL x i ms ss).take i).map (·.1)) (x := (stepM ms[i] ss[i] x).1) (fun y hy => by
      obtain ⟨z, hz, rfl⟩ := List.mem_map.1 hy
      exact (mixL_mem hx h0 (by omega) i hm hs (by omega) z hz).1) (stepM_ok (hm _ (List.getElem_mem him)) (hs _ (List.getElem_mem his)) hx h0 (by omega)).1 (by rw [List.length_map, List.length_take]; omega) (mf_zero 0)
    refine xr hT S hl true [.v [cV (stepM ms[i] ss[i] x)]] 200 rfl ?_ fun β a w hβ hl S => ?_
    · (repeat' apply And.intro); all_goals first | exact True.intro | with_reducible assumption | decide +kernel | with_reducible exact Option.isSome_some | omega | with_reducible exact decide_eq_true (by omega) | with_reducible exact decide_eq_false (by omega) | with_reducible exact beq_iff_eq.2 (by omega) | with_reducible exact beq_eq_false_iff_ne.2 (by omega) | with_reducible exact bne_iff_ne.2 (by omega) | with_reducible exact bne_eq_false_iff_eq.2 (by omega) | skip
      all_goals first | exact hadd | exact hcs hO hgn
    have ei : (i : Int) + 1 = ((i + 1 : Nat) : Int) := by omega
    have es : fop .add .f32 (sumR 0 ((mixL x i ms ss).take i)) (stepM ms[i] ss[i] x).1 = sumR 0 ((mixL x (i + 1) ms ss).take (i + 1)) := by
      rw [mixL_take i ms ss him his]
      unfold sumR
      rw [List.map_append, ← sum32_snoc]
      rfl
    have S := S.keep [1, 2, 7, 10, 11, 12] rfl
    have S := S.dropb
    obtain ⟨β, hl, S⟩ := S.cut 0 (by omega) (by simp [SV.wfs, SV.wf]) (by simp)
    have S : St β u w a 36 [(1, .v (.slice (some ⟨g, 0, none⟩) n cs)), (2, .v (.float .f32 x)), (7, .v (fV (fop .add .f32 (sumR 0 ((mixL x i ms ss).take i)) (stepM ms[i] ss[i] x).1))), (10, .v (.slice (some ad) n c)), (11, .v (.int .i64 n)), (12, .v (.int .i64 ((i : Int) + 1)))] [] (M :: L) := S
    rw [es, ei] at S
    exact xj ⟨i + 1, ⟨β, M, hl, by omega, hO, S⟩, by omega⟩
  · refine xr hT S hl true [.b false] 200 rfl (by (repeat' apply And.intro); all_goals first | exact True.intro | with_reducible assumption | decide +kernel | with_reducible exact Option.isSome_some | omega | with_reducible exact decide_eq_true (by omega) | with_reducible exact decide_eq_false (by omega) | with_reducible exact beq_iff_eq.2 (by omega) | with_reducible exact beq_eq_false_iff_ne.2 (by omega) | with_reducible exact bne_iff_ne.2 (by omega) | with_reducible exact bne_eq_false_iff_eq.2 (by omega) | skip) fun β a w hβ hl S => ?_
    have e1 : i = ms.length := by omega
    subst e1
    rw [mixL_all ms ss (by omega)] at S hO
    rw [List.take_of_length_le (by rw [stepL_len ms ss x (by omega)]; omega)] at S
    exact xret hT S rfl ⟨_, rfl, rfl, M, hO, S.sh⟩
end Go.SX
