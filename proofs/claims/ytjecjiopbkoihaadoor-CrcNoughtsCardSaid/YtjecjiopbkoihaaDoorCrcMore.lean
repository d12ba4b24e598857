/- Plain law: a byte that turns; a sum behind its own bytes; rows xored. -/
import Derived.Test.YtjecjiopbkoihaaDoorCrcHalf
namespace Go.Proofs.YtjecjiopbkoihaaDoor.Crc

/-- One byte is another one. -/
theorem fold_set (l : List Nat) : ∀ (s : BitVec 32) (j c : Nat), j < l.length →
    fold s (l.set j c) = fold s l ^^^ adv (8 * (l.length - j)) (BitVec.ofNat 32 (l.getD j 0) ^^^ BitVec.ofNat 32 c) := by
  induction l with
  | nil => intro s j c h; simp at h
  | cons b l ih =>
    intro s j c h
    cases j with
    | zero =>
      show fold (upd s c) l = fold (upd s b) l ^^^ _
      have hu : upd s c = adv 8 (BitVec.ofNat 32 b ^^^ BitVec.ofNat 32 c) ^^^ upd s b := by
        unfold upd
        rw [← adv_xor]
        congr 1
        rw [BitVec.xor_comm s (BitVec.ofNat 32 b), BitVec.xor_comm (BitVec.ofNat 32 b) (BitVec.ofNat 32 c), BitVec.xor_assoc, ← BitVec.xor_assoc (BitVec.ofNat 32 b), BitVec.xor_self, BitVec.zero_xor, BitVec.xor_comm]
      rw [hu, fold_xor, ← adv_add, BitVec.xor_comm]
      congr 2
      simp; omega
    | succ j =>
      show fold (upd s b) (l.set j c) = fold (upd s b) l ^^^ _
      rw [ih (upd s b) j c (by simpa using h)]
      congr 3
      simp

theorem adv_shl (k : Nat) (y : BitVec 32) (h : y.toNat * 2 ^ k < 4294967296) : adv k (y <<< k) = y := by
  induction k with
  | zero => simp [adv]
  | succ k ih =>
    have hlow : (y <<< (k + 1)).getLsbD 0 = false := by simp
    simp only [adv]
    rw [stp_even hlow]
    have e : (y <<< (k + 1)) >>> 1 = y <<< k := by
      apply BitVec.eq_of_toNat_eq
      rw [BitVec.toNat_ushiftRight, BitVec.toNat_shiftLeft, BitVec.toNat_shiftLeft, Nat.shiftLeft_eq, Nat.shiftLeft_eq, Nat.shiftRight_eq_div_pow]
      have h2 : y.toNat * 2 ^ k < 4294967296 := by
        have : y.toNat * 2 ^ k ≤ y.toNat * 2 ^ (k + 1) := Nat.mul_le_mul_left _ (Nat.pow_le_pow_right (by omega) (by omega))
        omega
      rw [Nat.mod_eq_of_lt (by simpa using h), Nat.mod_eq_of_lt (by simpa using h2), Nat.pow_succ, ← Nat.mul_assoc]
      simp
    rw [e]
    apply ih
    have : y.toNat * 2 ^ k ≤ y.toNat * 2 ^ (k + 1) := Nat.mul_le_mul_left _ (Nat.pow_le_pow_right (by omega) (by omega))
    omega

/-- A byte that comes k bits later. -/
theorem adv_later (k : Nat) (x : BitVec 32) (c : Nat) (h : c * 2 ^ k < 4294967296) : adv k x ^^^ BitVec.ofNat 32 c = adv k (x ^^^ BitVec.ofNat 32 c <<< k) := by
  have hc : c < 4294967296 := Nat.lt_of_le_of_lt (Nat.le_mul_of_pos_right c (Nat.pow_pos (by omega))) h
  rw [adv_xor, adv_shl]
  rw [BitVec.toNat_ofNat, Nat.mod_eq_of_lt (by simpa using hc)]
  exact h

/-- A sum's bytes, the lowest first. -/
def le4 (s : BitVec 32) : List Nat := [s.toNat % 256, s.toNat / 256 % 256, s.toNat / 65536 % 256, s.toNat / 16777216]
theorem le4_word (s : BitVec 32) : BitVec.ofNat 32 (s.toNat % 256) ^^^ BitVec.ofNat 32 (s.toNat / 256 % 256) <<< 8 ^^^ BitVec.ofNat 32 (s.toNat / 65536 % 256) <<< 16 ^^^ BitVec.ofNat 32 (s.toNat / 16777216) <<< 24 = s := by
  have e0 : BitVec.ofNat 32 (s.toNat % 256) = s &&& 255#32 := by
    apply BitVec.eq_of_toNat_eq
    rw [BitVec.toNat_and, BitVec.toNat_ofNat]
    have := Nat.and_two_pow_sub_one_eq_mod s.toNat 8
    simp at this ⊢
    rw [this]; omega
  have e1 : BitVec.ofNat 32 (s.toNat / 256 % 256) = (s >>> 8) &&& 255#32 := by
    apply BitVec.eq_of_toNat_eq
    rw [BitVec.toNat_and, BitVec.toNat_ofNat, BitVec.toNat_ushiftRight, Nat.shiftRight_eq_div_pow]
    have := Nat.and_two_pow_sub_one_eq_mod (s.toNat / 2 ^ 8) 8
    simp at this ⊢
    rw [this]; omega
  have e2 : BitVec.ofNat 32 (s.toNat / 65536 % 256) = (s >>> 16) &&& 255#32 := by
    apply BitVec.eq_of_toNat_eq
    rw [BitVec.toNat_and, BitVec.toNat_ofNat, BitVec.toNat_ushiftRight, Nat.shiftRight_eq_div_pow]
    have := Nat.and_two_pow_sub_one_eq_mod (s.toNat / 2 ^ 16) 8
    simp at this ⊢
    rw [this]; omega
  have e3 : BitVec.ofNat 32 (s.toNat / 16777216) = s >>> 24 := by
    apply BitVec.eq_of_toNat_eq
    rw [BitVec.toNat_ofNat, BitVec.toNat_ushiftRight, Nat.shiftRight_eq_div_pow]
    have := s.isLt
    omega
  rw [e0, e1, e2, e3]
  apply BitVec.eq_of_getLsbD_eq
  intro i hi
  have h255 : ∀ j, (255#32).getLsbD j = decide (j < 8) := by
    intro j
    by_cases hj : j < 32
    · have : ∀ j : Fin 32, (255#32).getLsbD j.val = decide (j.val < 8) := by decide
      exact this ⟨j, hj⟩
    · rw [BitVec.getLsbD_of_ge _ _ (by omega)]; simp; omega
  simp only [BitVec.getLsbD_xor, BitVec.getLsbD_and, BitVec.getLsbD_shiftLeft, BitVec.getLsbD_ushiftRight, h255, hi, decide_true, Bool.true_and]
  by_cases h8 : i < 8
  · simp [h8, show i < 16 by omega, show i < 24 by omega]
  · by_cases h16 : i < 16
    · simp [h8, h16, show i < 24 by omega, show i - 8 < 8 by omega, show 8 + (i - 8) = i by omega]
    · by_cases h24 : i < 24
      · simp [h8, h16, h24, show ¬ i - 8 < 8 by omega, show i - 16 < 8 by omega, show 16 + (i - 16) = i by omega]
      · simp [h8, h16, h24, show ¬ i - 8 < 8 by omega, show ¬ i - 16 < 8 by omega, show 24 + (i - 24) = i by omega]

theorem upd_later (k : Nat) (y : BitVec 32) (c : Nat) (h : c * 2 ^ k < 4294967296) : upd (adv k y) c = adv (k + 8) (y ^^^ BitVec.ofNat 32 c <<< k) := by
  unfold upd; rw [adv_later k y c h, ← adv_add]
theorem fold_le4 (r s : BitVec 32) : fold r (le4 s) = adv 32 (r ^^^ s) := by
  have hs := s.isLt
  show upd (upd (upd (adv 8 (r ^^^ BitVec.ofNat 32 (s.toNat % 256))) _) _) _ = _
  rw [upd_later 8 _ _ (by omega), upd_later (8 + 8) _ _ (by omega), upd_later (8 + 8 + 8) _ _ (by omega)]
  show adv 32 _ = adv 32 _
  congr 1
  conv => rhs; rw [← le4_word s]
  simp only [BitVec.xor_assoc]

theorem residue (l : List Nat) : sum (l ++ le4 (sum l)) = 0x2144DF1C#32 := by
  unfold sum more
  rw [fold_append, fold_le4, ← not_xor_not, BitVec.xor_self]
  decide +kernel

/-- Three rows of one length, xored byte by byte. -/
def xor3 : List Nat → List Nat → List Nat → List Nat
  | a :: l, b :: m, c :: n => (a ^^^ b ^^^ c) :: xor3 l m n
  | _, _, _ => []
theorem ofNat_xor (a b : Nat) : BitVec.ofNat 32 (a ^^^ b) = BitVec.ofNat 32 a ^^^ BitVec.ofNat 32 b := BitVec.ofNat_xor ..
theorem fold_xor3 : ∀ (l m n : List Nat) (r s t : BitVec 32), l.length = m.length → m.length = n.length → fold (r ^^^ s ^^^ t) (xor3 l m n) = fold r l ^^^ fold s m ^^^ fold t n
  | [], [], [], r, s, t, _, _ => rfl
  | a :: l, b :: m, c :: n, r, s, t, h1, h2 => by
    show fold (upd (r ^^^ s ^^^ t) (a ^^^ b ^^^ c)) (xor3 l m n) = fold (upd r a) l ^^^ fold (upd s b) m ^^^ fold (upd t c) n
    have hu : upd (r ^^^ s ^^^ t) (a ^^^ b ^^^ c) = upd r a ^^^ upd s b ^^^ upd t c := by
      unfold upd
      rw [← adv_xor, ← adv_xor, ofNat_xor, ofNat_xor]
      congr 1
      generalize BitVec.ofNat 32 a = x
      generalize BitVec.ofNat 32 b = y
      generalize BitVec.ofNat 32 c = z
      ext i
      simp only [BitVec.getElem_xor]
      cases r[i] <;> cases s[i] <;> cases t[i] <;> cases x[i] <;> cases y[i] <;> cases z[i] <;> rfl
    rw [hu]
    exact fold_xor3 l m n _ _ _ (by simpa using h1) (by simpa using h2)
theorem sum_xor3 (l m n : List Nat) (h1 : l.length = m.length) (h2 : m.length = n.length) : sum (xor3 l m n) = sum l ^^^ sum m ^^^ sum n := by
  unfold sum more
  have e : (~~~ 0#32) = (~~~ 0#32) ^^^ (~~~ 0#32) ^^^ (~~~ (0#32 : BitVec 32)) := by decide
  have := fold_xor3 l m n (~~~ 0#32) (~~~ 0#32) (~~~ 0#32) h1 h2
  rw [← e] at this
  rw [this]
  generalize fold (~~~ 0#32) l = x
  generalize fold (~~~ 0#32) m = y
  generalize fold (~~~ 0#32) n = z
  ext i
  simp only [BitVec.getElem_xor, BitVec.getElem_not]
  cases x[i] <;> cases y[i] <;> cases z[i] <;> rfl

/-! ### Bursts -/
def pow2 (r : Nat) : Nat := 2 ^ r
theorem pow2_lt (r : Nat) (h : r < 8) : pow2 r < 256 := by
  unfold pow2
  have : 2 ^ r ≤ 2 ^ 7 := Nat.pow_le_pow_right (by omega) (by omega)
  omega
theorem one_adv (r : Nat) (h : r < 32) : adv r (1#32 <<< r) = 1#32 := by
  apply adv_shl
  have : 2 ^ r ≤ 2 ^ 31 := Nat.pow_le_pow_right (by omega) (by omega)
  show 1 * 2 ^ r < _
  omega
theorem ofNat_pow2 (r : Nat) (h : r < 32) : BitVec.ofNat 32 (pow2 r) = 1#32 <<< r := by
  apply BitVec.eq_of_toNat_eq
  rw [BitVec.toNat_ofNat, BitVec.toNat_shiftLeft, Nat.shiftLeft_eq]
  simp [pow2]
/-- The two sums part by what was turned. -/
def Part (s : BitVec 32) (L o : List Nat) (P : Nat) (t : BitVec 32) (j : Nat) : Prop := fold s o = fold s L ^^^ adv (8 * L.length - P) (low t j)
theorem part_zero (s : BitVec 32) (L : List Nat) (P : Nat) (t : BitVec 32) : Part s L L P t 0 := by
  unfold Part low; rw [adv_zero, BitVec.xor_zero]
theorem part_no {s : BitVec 32} {L o : List Nat} {P : Nat} {t : BitVec 32} {j : Nat} (h : Part s L o P t j) (hb : bitB t j = false) : Part s L o P t (j + 1) := by
  unfold Part at h ⊢
  unfold bitB at hb
  rw [h]
  conv => rhs; unfold low
  simp [hb]
theorem part_yes {s : BitVec 32} {L o : List Nat} {P : Nat} {t : BitVec 32} {j K : Nat} (h : Part s L o P t j) (hb : bitB t j = true) (hj : j < 32) (hK : K = P + j) (hL : K < 8 * L.length) (ho : o.length = L.length) :
    Part s L (o.set (K / 8) (o.getD (K / 8) 0 ^^^ pow2 (K % 8))) P t (j + 1) := by
  unfold Part at h ⊢
  unfold bitB at hb
  rw [fold_set o s (K / 8) _ (by omega), h, BitVec.xor_assoc]
  congr 1
  rw [ofNat_xor, ← BitVec.xor_assoc, BitVec.xor_self, BitVec.zero_xor, ofNat_pow2 _ (by omega), ho]
  have e1 : 8 * (L.length - K / 8) = K % 8 + (8 * L.length - K) := by omega
  have e2 : 8 * L.length - P = j + (8 * L.length - K) := by omega
  rw [e1, adv_add, one_adv _ (by omega), e2]
  conv => rhs; unfold low
  simp only [hb, if_true]
  rw [adv_xor, adv_add j _ (1#32 <<< j), one_adv j hj]
theorem part_all {L o : List Nat} {P : Nat} {t : BitVec 32} (h : Part (~~~ 0#32) L o P t 32) : (sum L = sum o) ↔ t = 0#32 := by
  unfold Part at h
  rw [low_all] at h
  unfold sum more
  rw [h]
  constructor
  · intro e
    have e' := congrArg (~~~ ·) e
    simp only [BitVec.not_not] at e'
    apply adv_eq_zero (n := 8 * L.length - P)
    generalize adv (8 * L.length - P) t = d at e'
    generalize fold (~~~ 0#32) L = f at e'
    have := congrArg (f ^^^ ·) e'
    simp only [← BitVec.xor_assoc, BitVec.xor_self, BitVec.zero_xor] at this
    exact this.symm
  · rintro rfl
    rw [adv_zero, BitVec.xor_zero]
end Go.Proofs.YtjecjiopbkoihaaDoor.Crc
