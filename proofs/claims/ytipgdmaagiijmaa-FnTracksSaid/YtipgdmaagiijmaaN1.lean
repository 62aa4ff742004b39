import Derived.Laws.FloatArith
set_option linter.unusedVariables false
namespace Go.SX
open Ieee

/-- |x| ≤ 2^K units of the least place -/
def Bd (f : Format) (K : Nat) (x : Nat) : Prop := ∃ s m p, f.read x = .number s m p ∧ f.leastPlace ≤ p ∧ m * 2 ^ (p - f.leastPlace).toNat ≤ 2 ^ K
theorem Bd.mono {f : Format} {K K' x : Nat} (h : Bd f K x) (hk : K ≤ K') : Bd f K' x := by
  obtain ⟨s, m, p, h1, h2, h3⟩ := h
  exact ⟨s, m, p, h1, h2, Nat.le_trans h3 (Nat.pow_le_pow_right (by decide) hk)⟩
theorem word_mod (f : Format) (neg : Bool) {r : Nat} (h : r < f.signWeight) : f.word neg r % f.signWeight = r := by
  unfold Format.word
  split
  · rw [Nat.add_mod_left, Nat.mod_eq_of_lt h]
  · exact Nat.mod_eq_of_lt h
theorem read_bd {f : Format} {K x : Nat} (hf : f.fractionBits ≤ K) (h : x % f.signWeight ≤ (K - f.fractionBits + 1) * f.binade) (hi : K - f.fractionBits + 1 < 2 ^ f.exponentBits - 1) : Bd f K x := by
  have hb : 0 < f.binade := Nat.two_pow_pos _
  unfold Bd Format.read
  simp only
  generalize x % f.signWeight = r at h
  generalize (x / f.signWeight % 2 == 1) = s
  have hK : f.binade ≤ 2 ^ K := Nat.pow_le_pow_right (by decide) hf
  by_cases h1 : r < f.binade
  · rw [if_pos h1]
    exact ⟨_, _, _, rfl, Int.le_refl _, by simp; omega⟩
  · rw [if_neg h1]
    have hr : r < f.infRung := Nat.lt_of_le_of_lt h (Nat.mul_lt_mul_of_pos_right hi hb)
    rw [if_pos hr]
    refine ⟨_, _, _, rfl, by omega, ?_⟩
    have hq : 1 ≤ r / f.binade := Nat.div_pos (by omega) hb
    rw [show (f.leastPlace + ((r / f.binade - 1 : Nat) : Int) - f.leastPlace).toNat = r / f.binade - 1 by omega]
    have hq2 : r / f.binade ≤ K - f.fractionBits + 1 := Nat.div_le_of_le_mul (by rw [Nat.mul_comm]; exact h)
    have hm : r % f.binade < f.binade := Nat.mod_lt _ hb
    have hrq := Nat.div_add_mod r f.binade
    by_cases hlt : r / f.binade ≤ K - f.fractionBits
    · have e1 : (f.binade + r % f.binade) * 2 ^ (r / f.binade - 1) ≤ (2 * f.binade) * 2 ^ (r / f.binade - 1) := Nat.mul_le_mul_right _ (by omega)
      have e2 : (2 * f.binade) * 2 ^ (r / f.binade - 1) = 2 ^ (f.fractionBits + r / f.binade) := by
        unfold Format.binade
        rw [← Nat.pow_succ', ← Nat.pow_add]
        congr 1
        unfold Format.binade at hq
        omega
      rw [e2] at e1
      exact Nat.le_trans e1 (Nat.pow_le_pow_right (by decide) (by omega))
    · have e0 : r / f.binade = K - f.fractionBits + 1 := by omega
      have e3 : r % f.binade = 0 := by
        rw [e0, Nat.mul_comm] at hrq
        omega
      rw [e0, e3, Nat.add_zero, Nat.add_sub_cancel]
      unfold Format.binade
      rw [← Nat.pow_add]
      exact Nat.pow_le_pow_right (by decide) (by omega)

theorem cut_le {n c d : Nat} (neg : Bool) (h : n ≤ c * 2 ^ d) (hc : 1 ≤ c) : Toward.even.cut neg n d ≤ c := by
  unfold Toward.cut
  simp only [Nat.one_shiftLeft]
  rcases Nat.lt_or_ge (n.log2 + 2) d with hd | hd
  · rw [Nat.min_eq_right (by omega)]
    have : n < 2 ^ (n.log2 + 2) := Nat.lt_of_lt_of_le Nat.lt_log2_self (Nat.pow_le_pow_right (by decide) (by omega))
    rw [Nat.div_eq_of_lt this]
    generalize ((_ || _ : Bool)) = m
    cases m <;> simp <;> omega
  · rw [Nat.min_eq_left hd]
    have hp : 0 < 2 ^ d := Nat.two_pow_pos _
    rcases Nat.lt_or_ge n (c * 2 ^ d) with hn | hn
    · have : n / 2 ^ d < c := (Nat.div_lt_iff_lt_mul hp).2 hn
      generalize ((_ || _ : Bool)) = m
      cases m <;> simp <;> omega
    · have e : n = c * 2 ^ d := by omega
      subst e
      rw [Nat.mul_div_cancel _ hp, Nat.mul_mod_left]
      have : ((decide (2 ^ d < 2 * 0) || (2 ^ d == 2 * 0 && c % 2 == 1))) = false := by simp
      rw [this]
      simp
theorem write_bd {f : Format} {K mag : Nat} {place : Int} (neg : Bool) (hf : f.fractionBits ≤ K) (hi : K - f.fractionBits + 1 < 2 ^ f.exponentBits - 1)
    (h : mag * 2 ^ (place - f.leastPlace).toNat ≤ 2 ^ K * 2 ^ (f.leastPlace - place).toNat) : Bd f K (f.nearest neg mag place) := by
  have hb : 0 < f.binade := Nat.two_pow_pos _
  have hsw : f.infRung < f.signWeight := f.infRung_lt
  have key : ∀ r, r ≤ (K - f.fractionBits + 1) * f.binade → Bd f K (f.word neg (min r f.infRung)) := by
    intro r hr
    have hlt : (K - f.fractionBits + 1) * f.binade < f.infRung := Nat.mul_lt_mul_of_pos_right hi hb
    refine read_bd hf ?_ hi
    rw [word_mod f neg (by omega)]
    omega
  unfold Format.nearest
  by_cases h0 : mag = 0
  · rw [if_pos h0]
    have := key 0 (Nat.zero_le _)
    simpa using this
  · rw [if_neg h0]
    simp only
    refine key _ ?_
    have hl1 : 2 ^ mag.log2 ≤ mag := Nat.log2_self_le h0
    have hl2 : mag < 2 ^ (mag.log2 + 1) := Nat.lt_log2_self
    generalize mag.log2 = l at hl1 hl2
    have hbd : f.binade = 2 ^ f.fractionBits := rfl
    rw [hbd]
    generalize f.leastPlace = lp at h ⊢
    generalize f.fractionBits = fb at hf ⊢
    have hup : ∀ A : Nat, (mag * 2 ^ A ≤ 2 ^ (l + 1 + A)) := fun A => by
      rw [Nat.pow_add]
      exact Nat.mul_le_mul_right _ (Nat.le_of_lt hl2)
    have hKl : l + (place - lp).toNat ≤ K + (lp - place).toNat := by
      rw [← Nat.pow_add] at h
      have : 2 ^ (l + (place - lp).toNat) ≤ 2 ^ (K + (lp - place).toNat) := by
        rw [Nat.pow_add]
        exact Nat.le_trans (Nat.mul_le_mul_right _ hl1) h
      exact (Nat.pow_le_pow_iff_right (by decide)).1 this
    have hone : 1 ≤ 2 ^ fb := Nat.two_pow_pos _
    rcases Int.lt_or_le (place + (l : Int) - fb) lp with hB | hA
    · rw [Int.max_eq_right (by omega)]
      have e0 : (lp - lp).toNat = 0 := by omega
      rw [e0, Nat.zero_mul, Nat.zero_add]
      have hc : Toward.even.cut neg (mag <<< (place - lp).toNat) (lp - place).toNat ≤ 2 ^ fb := by
        refine cut_le neg ?_ hone
        rw [Nat.shiftLeft_eq, ← Nat.pow_add]
        exact Nat.le_trans (hup _) (Nat.pow_le_pow_right (by decide) (by omega))
      refine Nat.le_trans hc ?_
      exact Nat.le_mul_of_pos_left _ (by omega)
    · rw [Int.max_eq_left (by omega)]
      rcases Nat.lt_or_ge (l + (place - lp).toNat) (K + (lp - place).toNat) with hlt | hge
      · have hc : Toward.even.cut neg (mag <<< (place - (place + (l : Int) - fb)).toNat) ((place + (l : Int) - fb) - place).toNat ≤ 2 * 2 ^ fb := by
          refine cut_le neg ?_ (by omega)
          rw [Nat.shiftLeft_eq, ← Nat.pow_succ', ← Nat.pow_add]
          exact Nat.le_trans (hup _) (Nat.pow_le_pow_right (by decide) (by omega))
        have h1 : (place + (l : Int) - fb - lp).toNat ≤ K - 1 - fb := by omega
        have h2 := Nat.mul_le_mul_right (2 ^ fb) h1
        have h3 : (K - fb + 1) * 2 ^ fb = (K - 1 - fb) * 2 ^ fb + 2 * 2 ^ fb := by
          rw [← Nat.add_mul]
          congr 1
          omega
        omega
      · have hm : mag ≤ 2 ^ l := by
          have e : K + (lp - place).toNat = l + (place - lp).toNat := by omega
          rw [← Nat.pow_add, e, Nat.pow_add] at h
          exact Nat.le_of_mul_le_mul_right h (Nat.two_pow_pos _)
        have hc : Toward.even.cut neg (mag <<< (place - (place + (l : Int) - fb)).toNat) ((place + (l : Int) - fb) - place).toNat ≤ 2 ^ fb := by
          refine cut_le neg ?_ hone
          rw [Nat.shiftLeft_eq, ← Nat.pow_add]
          refine Nat.le_trans (Nat.mul_le_mul_right _ hm) ?_
          rw [← Nat.pow_add]
          exact Nat.pow_le_pow_right (by decide) (by omega)
        have h1 : (place + (l : Int) - fb - lp).toNat ≤ K - fb := by omega
        have h2 := Nat.mul_le_mul_right (2 ^ fb) h1
        have h3 : (K - fb + 1) * 2 ^ fb = (K - fb) * 2 ^ fb + 2 ^ fb := by
          rw [Nat.add_mul, Nat.one_mul]
        omega

theorem signed_abs (s : Bool) (m up : Nat) : (signed s m up).natAbs = m * 2 ^ up := by
  unfold signed
  rw [Nat.shiftLeft_eq]
  cases s <;> simp [Int.natAbs_mul, Int.natAbs_pow]
/-- the greatest K that the format has -/
def Format.top (f : Format) : Nat := f.fractionBits + 2 ^ f.exponentBits - 3
theorem top_lt {f : Format} {K : Nat} (hf : f.fractionBits ≤ K) (h : K ≤ Format.top f) (he : 3 ≤ 2 ^ f.exponentBits) : K - f.fractionBits + 1 < 2 ^ f.exponentBits - 1 := by
  unfold Format.top at h
  omega
def Good (f : Format) : Prop := 3 ≤ 2 ^ f.exponentBits ∧ f.leastPlace ≤ 0
theorem good_single : Good single := ⟨by decide, by decide⟩
theorem good_double : Good double := ⟨by decide, by decide⟩
variable {f : Format} {K K' x y : Nat}
theorem add_bd (hg : Good f) (hx : Bd f K x) (hy : Bd f K' y) {J : Nat} (hJ : 2 ^ K + 2 ^ K' ≤ 2 ^ J) (hf : f.fractionBits ≤ J) (ht : J ≤ Format.top f) : ∃ r, f.add x y = some r ∧ Bd f J r := by
  obtain ⟨s, m, p, h1, h2, h3⟩ := hx
  obtain ⟨t, n, q, h4, h5, h6⟩ := hy
  unfold Format.add
  rw [h1, h4]
  refine ⟨_, rfl, write_bd _ hf (top_lt hf ht hg.1) ?_⟩
  have e : (f.leastPlace - min p q).toNat = 0 := by omega
  rw [e, Nat.pow_zero, Nat.mul_one]
  have ha := Int.natAbs_add_le (signed s m (p - min p q).toNat) (signed t n (q - min p q).toNat)
  rw [signed_abs, signed_abs] at ha
  refine Nat.le_trans (Nat.mul_le_mul_right _ ha) ?_
  rw [Nat.add_mul, Nat.mul_assoc, Nat.mul_assoc, ← Nat.pow_add, ← Nat.pow_add]
  rw [show (p - min p q).toNat + (min p q - f.leastPlace).toNat = (p - f.leastPlace).toNat by omega, show (q - min p q).toNat + (min p q - f.leastPlace).toNat = (q - f.leastPlace).toNat by omega]
  omega
theorem opp_bd {d : Datum} {s m p} (h : d = .number s m p) : d.opposite = .number (!s) m p := by rw [h]; rfl
theorem sub_bd (hg : Good f) (hx : Bd f K x) (hy : Bd f K' y) {J : Nat} (hJ : 2 ^ K + 2 ^ K' ≤ 2 ^ J) (hf : f.fractionBits ≤ J) (ht : J ≤ Format.top f) : ∃ r, f.sub x y = some r ∧ Bd f J r := by
  obtain ⟨s, m, p, h1, h2, h3⟩ := hx
  obtain ⟨t, n, q, h4, h5, h6⟩ := hy
  unfold Format.sub
  rw [h1, opp_bd h4]
  refine ⟨_, rfl, write_bd _ hf (top_lt hf ht hg.1) ?_⟩
  have e : (f.leastPlace - min p q).toNat = 0 := by omega
  rw [e, Nat.pow_zero, Nat.mul_one]
  have ha := Int.natAbs_add_le (signed s m (p - min p q).toNat) (signed (!t) n (q - min p q).toNat)
  rw [signed_abs, signed_abs] at ha
  refine Nat.le_trans (Nat.mul_le_mul_right _ ha) ?_
  rw [Nat.add_mul, Nat.mul_assoc, Nat.mul_assoc, ← Nat.pow_add, ← Nat.pow_add]
  rw [show (p - min p q).toNat + (min p q - f.leastPlace).toNat = (p - f.leastPlace).toNat by omega, show (q - min p q).toNat + (min p q - f.leastPlace).toNat = (q - f.leastPlace).toNat by omega]
  omega
/-- with lp the number of units in 1, as a power of two -/
theorem mul_bd (hg : Good f) (hx : Bd f K x) (hy : Bd f K' y) {J : Nat} (hJ : (K : Int) + K' + f.leastPlace ≤ J) (hf : f.fractionBits ≤ J) (ht : J ≤ Format.top f) : ∃ r, f.mul x y = some r ∧ Bd f J r := by
  obtain ⟨s, m, p, h1, h2, h3⟩ := hx
  obtain ⟨t, n, q, h4, h5, h6⟩ := hy
  unfold Format.mul
  rw [h1, h4]
  refine ⟨_, rfl, write_bd _ hf (top_lt hf ht hg.1) ?_⟩
  have hl := hg.2
  generalize f.leastPlace = lp at h2 h3 h5 h6 hJ hl ⊢
  have e1 : m * n * 2 ^ ((p - lp).toNat + (q - lp).toNat) ≤ 2 ^ (K + K') := by
    have := Nat.mul_le_mul h3 h6
    rw [Nat.pow_add, Nat.pow_add]
    calc _ = m * 2 ^ (p - lp).toNat * (n * 2 ^ (q - lp).toNat) := by ac_rfl
      _ ≤ _ := this
  rw [← Nat.pow_add]
  have e2 : m * n * 2 ^ (p + q - lp).toNat * 2 ^ (lp - (p + q)).toNat ≤ m * n * 2 ^ (p + q - lp).toNat * 2 ^ (lp - (p + q)).toNat := Nat.le_refl _
  -- both sides times 2 ^ (- lp)
  refine Nat.le_of_mul_le_mul_right (c := 2 ^ (-lp).toNat) ?_ (Nat.two_pow_pos _)
  rw [Nat.mul_assoc, ← Nat.pow_add, ← Nat.pow_add]
  rw [show (p + q - lp).toNat + (-lp).toNat = ((p - lp).toNat + (q - lp).toNat) + (lp - (p + q)).toNat by omega]
  rw [Nat.pow_add, ← Nat.mul_assoc]
  refine Nat.le_trans (Nat.mul_le_mul_right _ e1) ?_
  rw [← Nat.pow_add]
  exact Nat.pow_le_pow_right (by decide) (by omega)
theorem int_bd (hg : Good f) (n : Int) {a : Nat} (hn : n.natAbs ≤ 2 ^ a) {J : Nat} (hJ : (a : Int) ≤ J + f.leastPlace) (hf : f.fractionBits ≤ J) (ht : J ≤ Format.top f) : Bd f J (f.write (.number (n < 0) n.natAbs 0)) := by
  refine write_bd _ hf (top_lt hf ht hg.1) ?_
  have hl := hg.2
  generalize f.leastPlace = lp at hJ hl ⊢
  rw [show (lp - 0).toNat = 0 by omega, Nat.pow_zero, Nat.mul_one]
  refine Nat.le_trans (Nat.mul_le_mul_right _ hn) ?_
  rw [← Nat.pow_add]
  exact Nat.pow_le_pow_right (by decide) (by omega)
theorem quot_le {D n X Y : Nat} (hn : 0 < n) (hD : n ≤ D) (h : 2 * D * 2 ^ X ≤ 2 ^ Y * n) : (2 * (D / n) + (D % n != 0).toNat) * 2 ^ X ≤ 2 ^ Y := by
  have hd : 1 ≤ D / n := Nat.div_pos hD hn
  have hdm := Nat.div_add_mod D n
  generalize D / n = d at hd hdm ⊢
  by_cases h0 : D % n = 0
  · rw [h0] at hdm ⊢
    simp only [bne_self_eq_false, Bool.toNat_false, Nat.add_zero] at hdm ⊢
    refine Nat.le_of_mul_le_mul_right (c := n) ?_ hn
    refine Nat.le_trans (Nat.le_of_eq ?_) h
    rw [← hdm]
    ac_rfl
  · have e : (D % n != 0).toNat = 1 := by simp [h0]
    rw [e]
    have hlt : n * d < D := by omega
    have h1 : 2 * d * 2 ^ X * n < 2 ^ Y * n := by
      refine Nat.lt_of_lt_of_le ?_ h
      have : 2 * 2 ^ X * (n * d) < 2 * 2 ^ X * D := Nat.mul_lt_mul_of_pos_left hlt (Nat.mul_pos (by decide) (Nat.two_pow_pos _))
      calc 2 * d * 2 ^ X * n = 2 * 2 ^ X * (n * d) := by ac_rfl
        _ < 2 * 2 ^ X * D := this
        _ = 2 * D * 2 ^ X := by ac_rfl
    have h2 : 2 * d * 2 ^ X < 2 ^ Y := Nat.lt_of_mul_lt_mul_right h1
    have h3 : X + 1 < Y := by
      refine (Nat.pow_lt_pow_iff_right (a := 2) (by decide)).1 (Nat.lt_of_le_of_lt ?_ h2)
      rw [Nat.pow_succ, Nat.mul_comm]
      exact Nat.mul_le_mul_right _ (by omega)
    obtain ⟨Z, rfl⟩ : ∃ Z, Y = Z + 1 + X := ⟨Y - X - 1, by omega⟩
    rw [Nat.pow_add] at h2 ⊢
    have h4 := Nat.lt_of_mul_lt_mul_right h2
    rw [Nat.pow_succ] at h4
    refine Nat.mul_le_mul_right _ ?_
    rw [Nat.pow_succ]
    omega
/-- y is at least 2 ^ J units -/
theorem div_bd (hg : Good f) (hx : Bd f K x) {t n q} (h4 : f.read y = .number t n q) {J : Nat} (hn : 2 ^ J ≤ n * 2 ^ (q - f.leastPlace).toNat) (hq : f.leastPlace ≤ q) {N : Nat} (hN : (K : Int) - J - f.leastPlace ≤ N) (hf : f.fractionBits ≤ N) (ht : N ≤ Format.top f) :
    ∃ r, f.div x y = some r ∧ Bd f N r := by
  obtain ⟨s, m, p, h1, h2, h3⟩ := hx
  have hn0 : n ≠ 0 := by
    intro e
    subst e
    have := Nat.two_pow_pos J
    omega
  unfold Format.div
  rw [h1, h4]
  simp only [Datum.quotient, hn0, if_false, Option.map_some]
  refine ⟨_, rfl, write_bd _ hf (top_lt hf ht hg.1) ?_⟩
  have hl := hg.2
  have hm : m ≠ 0 → n ≤ m * 2 ^ (f.fractionBits + 2 + n.log2 - m.log2) := by
    intro h0
    refine Nat.le_trans (Nat.le_of_lt Nat.lt_log2_self) ?_
    refine Nat.le_trans ?_ (Nat.mul_le_mul_right _ (Nat.log2_self_le h0))
    rw [← Nat.pow_add]
    exact Nat.pow_le_pow_right (by decide) (by omega)
  generalize f.leastPlace = lp at h2 h3 hq hn hN hl ⊢
  generalize f.fractionBits + 2 + n.log2 - m.log2 = more at hm ⊢
  rw [Nat.shiftLeft_eq]
  by_cases h0 : m = 0
  · subst h0
    simp
  have key := quot_le (D := m * 2 ^ more) (n := n) (X := (p - lp).toNat + J) (Y := more + 1 + K + (q - lp).toNat) (by omega) (hm h0) (by
    calc 2 * (m * 2 ^ more) * 2 ^ ((p - lp).toNat + J) = 2 ^ (more + 1) * ((m * 2 ^ (p - lp).toNat) * 2 ^ J) := by rw [Nat.pow_add, Nat.pow_succ]; ac_rfl
      _ ≤ 2 ^ (more + 1) * (2 ^ K * (n * 2 ^ (q - lp).toNat)) := Nat.mul_le_mul_left _ (Nat.mul_le_mul h3 hn)
      _ = 2 ^ (more + 1 + K + (q - lp).toNat) * n := by rw [Nat.pow_add 2 (more + 1 + K), Nat.pow_add 2 (more + 1) K]; ac_rfl)
  generalize 2 * (m * 2 ^ more / n) + (m * 2 ^ more % n != 0).toNat = M at key ⊢
  refine Nat.le_of_mul_le_mul_right (c := 2 ^ ((p - lp).toNat + J)) ?_ (Nat.two_pow_pos _)
  have e : M * 2 ^ (p - q - (more : Int) - 1 - lp).toNat * 2 ^ ((p - lp).toNat + J) = M * 2 ^ ((p - lp).toNat + J) * 2 ^ (p - q - (more : Int) - 1 - lp).toNat := by ac_rfl
  rw [e]
  refine Nat.le_trans (Nat.mul_le_mul_right _ key) ?_
  rw [← Nat.pow_add, ← Nat.pow_add, ← Nat.pow_add]
  exact Nat.pow_le_pow_right (by decide) (by omega)
/-- from one format to another -/
theorem conv_bd {g : Format} (hg : Good g) (hfg : Good f) (hx : Bd f K x) {J : Nat} (hJ : (K : Int) + f.leastPlace ≤ J + g.leastPlace) (hf : g.fractionBits ≤ J) (ht : J ≤ Format.top g) : ∃ s m p, f.read x = .number s m p ∧ Bd g J (g.write (.number s m p)) := by
  obtain ⟨s, m, p, h1, h2, h3⟩ := hx
  refine ⟨s, m, p, h1, write_bd _ hf (top_lt hf ht hg.1) ?_⟩
  have l1 := hg.2
  have l2 := hfg.2
  generalize g.leastPlace = lg at hJ l1 ⊢
  generalize f.leastPlace = lp at h2 h3 hJ l2 ⊢
  refine Nat.le_of_mul_le_mul_right (c := 2 ^ (p - lp).toNat) ?_ (Nat.two_pow_pos _)
  have e : m * 2 ^ (p - lg).toNat * 2 ^ (p - lp).toNat = m * 2 ^ (p - lp).toNat * 2 ^ (p - lg).toNat := by ac_rfl
  rw [e]
  refine Nat.le_trans (Nat.mul_le_mul_right _ h3) ?_
  rw [← Nat.pow_add, ← Nat.pow_add, ← Nat.pow_add]
  exact Nat.pow_le_pow_right (by decide) (by omega)

/-! ### the two kinds, in powers of two -/
def Mf : FloatKind → Nat → Nat → Prop
  | .f32, e, x => Bd single (e + 149) x ∧ x < 2 ^ 32
  | .f64, e, x => Bd double (e + 1074) x ∧ x < 2 ^ 64
theorem Mf.mono {k : FloatKind} {e e' x : Nat} (h : Mf k e x) (he : e ≤ e') : Mf k e' x := by
  cases k
  · exact ⟨h.1.mono (by omega), h.2⟩
  · exact ⟨h.1.mono (by omega), h.2⟩
def FloatKind.emax : FloatKind → Nat
  | .f32 => 127
  | .f64 => 1023
theorem top32 : Format.top single = 276 := by decide
theorem top64 : Format.top double = 2097 := by decide
theorem pow_two_le (E : Nat) : 2 ^ E + 2 ^ E ≤ 2 ^ (E + 1) := by rw [Nat.pow_succ]; omega
theorem Mf.add {k : FloatKind} {e x y : Nat} (hx : Mf k e x) (hy : Mf k e y) (h : e + 1 ≤ FloatKind.emax k) : ∃ r, floatBits .add k x y = some r ∧ Mf k (e + 1) r := by
  cases k
  · obtain ⟨r, h1, h2⟩ := add_bd good_single hx.1 hy.1 (J := e + 1 + 149) (by rw [show e + 1 + 149 = e + 149 + 1 by omega]; exact pow_two_le _) (by simp [single]) (by rw [top32]; simp only [FloatKind.emax] at h; omega)
    exact ⟨r, h1, h2, Format.add_lt _ h1⟩
  · obtain ⟨r, h1, h2⟩ := add_bd good_double hx.1 hy.1 (J := e + 1 + 1074) (by rw [show e + 1 + 1074 = e + 1074 + 1 by omega]; exact pow_two_le _) (by show 52 ≤ _; omega) (by rw [top64]; simp only [FloatKind.emax] at h; omega)
    exact ⟨r, h1, h2, Format.add_lt _ h1⟩
theorem Mf.sub {k : FloatKind} {e x y : Nat} (hx : Mf k e x) (hy : Mf k e y) (h : e + 1 ≤ FloatKind.emax k) : ∃ r, floatBits .sub k x y = some r ∧ Mf k (e + 1) r := by
  cases k
  · obtain ⟨r, h1, h2⟩ := sub_bd good_single hx.1 hy.1 (J := e + 1 + 149) (by rw [show e + 1 + 149 = e + 149 + 1 by omega]; exact pow_two_le _) (by simp [single]) (by rw [top32]; simp only [FloatKind.emax] at h; omega)
    exact ⟨r, h1, h2, Format.sub_lt _ h1⟩
  · obtain ⟨r, h1, h2⟩ := sub_bd good_double hx.1 hy.1 (J := e + 1 + 1074) (by rw [show e + 1 + 1074 = e + 1074 + 1 by omega]; exact pow_two_le _) (by show 52 ≤ _; omega) (by rw [top64]; simp only [FloatKind.emax] at h; omega)
    exact ⟨r, h1, h2, Format.sub_lt _ h1⟩
theorem Mf.mul {k : FloatKind} {e e' x y : Nat} (hx : Mf k e x) (hy : Mf k e' y) (h : e + e' ≤ FloatKind.emax k) : ∃ r, floatBits .mul k x y = some r ∧ Mf k (e + e') r := by
  cases k
  · obtain ⟨r, h1, h2⟩ := mul_bd good_single hx.1 hy.1 (J := e + e' + 149) (by rw [show Format.leastPlace single = -149 by decide]; omega) (by simp [single]) (by rw [top32]; simp only [FloatKind.emax] at h; omega)
    exact ⟨r, h1, h2, Format.mul_lt _ h1⟩
  · obtain ⟨r, h1, h2⟩ := mul_bd good_double hx.1 hy.1 (J := e + e' + 1074) (by rw [show Format.leastPlace double = -1074 by decide]; omega) (by show 52 ≤ _; omega) (by rw [top64]; simp only [FloatKind.emax] at h; omega)
    exact ⟨r, h1, h2, Format.mul_lt _ h1⟩
/-- y is at least 1 -/
def Ge1 : FloatKind → Nat → Prop
  | .f32, y => ∃ t n q, single.read y = .number t n q ∧ 2 ^ 149 ≤ n * 2 ^ (q - single.leastPlace).toNat ∧ single.leastPlace ≤ q
  | .f64, y => ∃ t n q, double.read y = .number t n q ∧ 2 ^ 1074 ≤ n * 2 ^ (q - double.leastPlace).toNat ∧ double.leastPlace ≤ q
theorem Mf.quo {k : FloatKind} {e x y : Nat} (hx : Mf k e x) (hy : Ge1 k y) (h : e ≤ FloatKind.emax k) : ∃ r, floatBits .quo k x y = some r ∧ Mf k e r := by
  cases k
  · obtain ⟨t, n, q, h4, hn, hq⟩ := hy
    obtain ⟨r, h1, h2⟩ := div_bd good_single hx.1 h4 hn hq (N := e + 149) (by rw [show Format.leastPlace single = -149 by decide]; omega) (by simp [single]) (by rw [top32]; simp only [FloatKind.emax] at h; omega)
    exact ⟨r, h1, h2, Format.div_lt _ h1⟩
  · obtain ⟨t, n, q, h4, hn, hq⟩ := hy
    obtain ⟨r, h1, h2⟩ := div_bd good_double hx.1 h4 hn hq (N := e + 1074) (by rw [show Format.leastPlace double = -1074 by decide]; omega) (by show 52 ≤ _; omega) (by rw [top64]; simp only [FloatKind.emax] at h; omega)
    exact ⟨r, h1, h2, Format.div_lt _ h1⟩
theorem Mf.ofInt (k : FloatKind) {n : Int} {e : Nat} (hn : n.natAbs ≤ 2 ^ e) (h : e ≤ FloatKind.emax k) : Mf k e (floatOfInt k n) := by
  cases k
  · refine ⟨int_bd good_single n hn (J := e + 149) (by rw [show Format.leastPlace single = -149 by decide]; omega) (by simp [single]) (by rw [top32]; simp only [FloatKind.emax] at h; omega), ?_⟩
    exact Format.write_lt single (.number (n < 0) n.natAbs 0)
  · refine ⟨int_bd good_double n hn (J := e + 1074) (by rw [show Format.leastPlace double = -1074 by decide]; omega) (by show 52 ≤ _; omega) (by rw [top64]; simp only [FloatKind.emax] at h; omega), ?_⟩
    exact Format.write_lt double (.number (n < 0) n.natAbs 0)
theorem Mf.widen {e x : Nat} (hx : Mf .f32 e x) (h : e ≤ 1023) : ∃ r, floatToFloatBits .f32 x .f64 = some r ∧ Mf .f64 e r := by
  obtain ⟨s, m, p, h1, h2⟩ := conv_bd (g := double) good_double good_single hx.1 (J := e + 1074) (by show ((e + 149 : Nat) : Int) + -149 ≤ ((e + 1074 : Nat) : Int) + -1074; omega) (by show 52 ≤ _; omega) (by rw [top64]; omega)
  refine ⟨double.write (.number s m p), ?_, h2, Format.write_lt double _⟩
  unfold floatToFloatBits
  have e1 : FloatKind.f32.decode x = .number s m p := h1
  rw [if_neg (by decide), e1]
  obtain ⟨s', m', p', h3, _⟩ := h2
  have e2 : FloatKind.f64.decode (FloatKind.f64.encode (.number s m p)) = .number s' m' p' := h3
  simp only [e2, Datum.isInfinity]
  rfl
theorem Mf.narrow {e x : Nat} (hx : Mf .f64 e x) (h : e ≤ 127) : ∃ r, floatToFloatBits .f64 x .f32 = some r ∧ Mf .f32 e r := by
  obtain ⟨s, m, p, h1, h2⟩ := conv_bd (g := single) good_single good_double hx.1 (J := e + 149) (by show ((e + 1074 : Nat) : Int) + -1074 ≤ ((e + 149 : Nat) : Int) + -149; omega) (by simp [single]) (by rw [top32]; omega)
  refine ⟨single.write (.number s m p), ?_, h2, Format.write_lt single _⟩
  unfold floatToFloatBits
  have e1 : FloatKind.f64.decode x = .number s m p := h1
  rw [if_neg (by decide), e1]
  obtain ⟨s', m', p', h3, _⟩ := h2
  have e2 : FloatKind.f32.decode (FloatKind.f32.encode (.number s m p)) = .number s' m' p' := h3
  simp only [e2, Datum.isInfinity]
  rfl
end Go.SX
