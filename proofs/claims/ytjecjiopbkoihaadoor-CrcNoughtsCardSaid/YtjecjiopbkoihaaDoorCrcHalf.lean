/- Plain law: half a byte of noughts by a table is four steps; what u32's operations are, bit by bit. -/
import Derived.Test.YtjecjiopbkoihaaDoorCrcMath
namespace Go.Proofs.YtjecjiopbkoihaaDoor.Crc

def tabI : List Int := [0, 498536548, 997073096, 651767980, 1994146192, 1802195444, 1303535960, 1342533948, 3988292384, 4027552580, 3604390888, 3412177804, 2607071920, 2262029012, 2685067896, 3183342108]
def half (x : BitVec 32) : BitVec 32 := adv 4 x

theorem low_split (x : BitVec 32) : x = (x &&& ~~~ 15#32) ^^^ (x &&& 15#32) := by
  ext i; simp only [BitVec.getElem_xor, BitVec.getElem_and, BitVec.getElem_not]
  cases x[i] <;> cases (15#32)[i] <;> rfl

theorem stp_even {x : BitVec 32} (h : x.getLsbD 0 = false) : stp x = x >>> 1 := by
  unfold stp; rw [h]; simp

theorem adv_low0 (x : BitVec 32) (h : ∀ i, i < 4 → x.getLsbD i = false) : adv 4 x = x >>> 4 := by
  simp only [adv]
  have s1 : stp x = x >>> 1 := stp_even (h 0 (by omega))
  have s2 : stp (x >>> 1) = (x >>> 1) >>> 1 := stp_even (by rw [BitVec.getLsbD_ushiftRight]; exact h 1 (by omega))
  have s3 : stp ((x >>> 1) >>> 1) = ((x >>> 1) >>> 1) >>> 1 := stp_even (by rw [BitVec.getLsbD_ushiftRight, BitVec.getLsbD_ushiftRight]; exact h 2 (by omega))
  have s4 : stp (((x >>> 1) >>> 1) >>> 1) = (((x >>> 1) >>> 1) >>> 1) >>> 1 := stp_even (by rw [BitVec.getLsbD_ushiftRight, BitVec.getLsbD_ushiftRight, BitVec.getLsbD_ushiftRight]; exact h 3 (by omega))
  rw [s1, s2, s3, s4, ← BitVec.shiftRight_add, ← BitVec.shiftRight_add, ← BitVec.shiftRight_add]

theorem high_low0 (x : BitVec 32) (i : Nat) (h : i < 4) : (x &&& ~~~ 15#32).getLsbD i = false := by
  match i, h with
  | 0, _ => simp
  | 1, _ => simp
  | 2, _ => simp
  | 3, _ => simp

theorem high_shift (x : BitVec 32) : (x &&& ~~~ 15#32) >>> 4 = x >>> 4 := by
  apply BitVec.eq_of_getLsbD_eq
  intro i hi
  simp only [BitVec.getLsbD_ushiftRight, BitVec.getLsbD_and, BitVec.getLsbD_not]
  by_cases h : 4 + i < 32
  · have : (15#32).getLsbD (4 + i) = false := by
      rw [BitVec.getLsbD_ofNat]
      have : Nat.testBit 15 (4 + i) = false := Nat.testBit_lt_two_pow (by
        have : 2 ^ 4 ≤ 2 ^ (4 + i) := Nat.pow_le_pow_right (by omega) (by omega)
        omega)
      simp [this]
    rw [this]; simp [h]
  · rw [BitVec.getLsbD_of_ge x _ (by omega)]; simp

theorem tab_tells : ∀ k : Fin 16, (adv 4 (BitVec.ofNat 32 k.val)).toNat = (tabI.getD k.val 0).toNat := by decide +kernel
theorem tab_range : ∀ k : Fin 16, 0 ≤ tabI.getD k.val 0 ∧ tabI.getD k.val 0 < 4294967296 := by decide +kernel

theorem half_tells (x : BitVec 32) : half x = (x >>> 4) ^^^ adv 4 (x &&& 15#32) := by
  unfold half
  conv => lhs; rw [low_split x]
  rw [adv_xor, adv_low0 _ (high_low0 x), high_shift]

theorem low_nat (x : BitVec 32) : (x &&& 15#32).toNat = x.toNat % 16 := by
  rw [BitVec.toNat_and]
  exact Nat.and_two_pow_sub_one_eq_mod x.toNat 4

theorem ofInt_nat (x : BitVec 32) : BitVec.ofInt 32 (x.toNat : Int) = x := by
  apply BitVec.eq_of_toNat_eq
  rw [BitVec.toNat_ofInt]
  have := x.isLt
  omega

theorem wrap_u32 (x : BitVec 32) : IntKind.u32.wrap (x.toNat : Int) = (x.toNat : Int) := by
  have := x.isLt
  simp [IntKind.wrap, IntKind.bits, IntKind.signed]; omega

theorem bits_xor (x y : BitVec 32) : bits .xor .u32 (x.toNat : Int) (y.toNat : Int) = ((x ^^^ y).toNat : Int) := by
  show IntKind.u32.wrap ((BitVec.ofInt 32 (x.toNat : Int) ^^^ BitVec.ofInt 32 (y.toNat : Int)).toNat : Int) = _
  rw [ofInt_nat, ofInt_nat]; exact wrap_u32 _
theorem bits_and (x y : BitVec 32) : bits .and .u32 (x.toNat : Int) (y.toNat : Int) = ((x &&& y).toNat : Int) := by
  show IntKind.u32.wrap ((BitVec.ofInt 32 (x.toNat : Int) &&& BitVec.ofInt 32 (y.toNat : Int)).toNat : Int) = _
  rw [ofInt_nat, ofInt_nat]; exact wrap_u32 _

/-- The walk's spelling of half's index. -/
theorem and15 (x : BitVec 32) : bits .and .u32 (x.toNat : Int) 15 = ((x.toNat % 16 : Nat) : Int) := by
  have := bits_and x 15#32
  rw [low_nat] at this
  exact this
/-- The walk's spelling of half's answer. -/
theorem half_int (x : BitVec 32) : bits .xor .u32 ((x.toNat : Int) / 16) (tabI.getD (x.toNat % 16) 0) = ((half x).toNat : Int) := by
  have h1 : (x.toNat : Int) / (16 : Int) = ((x >>> 4).toNat : Int) := by
    rw [BitVec.toNat_ushiftRight, Nat.shiftRight_eq_div_pow]; rfl
  have hr := tab_range ⟨x.toNat % 16, Nat.mod_lt _ (by omega)⟩
  have ht := tab_tells ⟨x.toNat % 16, Nat.mod_lt _ (by omega)⟩
  have h2 : tabI.getD (x.toNat % 16) 0 = ((adv 4 (x &&& 15#32)).toNat : Int) := by
    have e : x &&& 15#32 = BitVec.ofNat 32 (x.toNat % 16) := by
      apply BitVec.eq_of_toNat_eq
      rw [low_nat, BitVec.toNat_ofNat]; omega
    rw [e]
    simp only at ht hr
    omega
  rw [h1, h2, bits_xor, ← half_tells]
/-- The walk's spelling of '^sum'. -/
theorem not_int (x : BitVec 32) : bits .xor .u32 IntKind.u32.max (x.toNat : Int) = ((~~~ x).toNat : Int) := by
  have := bits_xor (BitVec.allOnes 32) x
  rw [BitVec.allOnes_xor] at this
  exact this
theorem byte_int (x : BitVec 32) (c : Nat) (h : c < 256) : bits .xor .u32 (x.toNat : Int) (c : Int) = ((x ^^^ BitVec.ofNat 32 c).toNat : Int) := by
  have := bits_xor x (BitVec.ofNat 32 c)
  rw [show (BitVec.ofNat 32 c).toNat = c by rw [BitVec.toNat_ofNat]; omega] at this
  exact this
theorem half_half (x : BitVec 32) : half (half x) = adv 8 x := (adv_add 4 4 x).symm
theorem upd_halves (x : BitVec 32) (c : Nat) : half (half (x ^^^ BitVec.ofNat 32 c)) = upd x c := half_half _

/-- A byte's value, a sum's value, the table's cell: names that the walk does not open. -/
def tab (i : Nat) : Int := tabI.getD i 0
theorem half_tab (x : BitVec 32) : bits .xor .u32 ((x.toNat : Int) / 16) (tab (x.toNat % 16)) = ((half x).toNat : Int) := half_int x
/-- What a table of 32 sums does to a sum: of the first k bits. -/
def ofTo (M : Nat → BitVec 32) (s : BitVec 32) : Nat → BitVec 32
  | 0 => 0#32
  | k + 1 => if s.getLsbD k then ofTo M s k ^^^ M k else ofTo M s k
def low (s : BitVec 32) : Nat → BitVec 32
  | 0 => 0#32
  | k + 1 => if s.getLsbD k then low s k ^^^ (1#32 <<< k) else low s k
theorem low_bit (s : BitVec 32) (k : Nat) (hk : k ≤ 32) (i : Nat) : (low s k).getLsbD i = (decide (i < k) && s.getLsbD i) := by
  induction k with
  | zero => simp [low]
  | succ k ih =>
    have ih := ih (by omega)
    have hone : (1#32 <<< k).getLsbD i = decide (i = k) := by
      rw [BitVec.getLsbD_shiftLeft]
      by_cases hi : i < 32
      · by_cases hik : i < k
        · simp [hik]; omega
        · by_cases he : i = k
          · subst he; simp [hi]
          · have : (1#32).getLsbD (i - k) = false := by
              rw [BitVec.getLsbD_one]; simp; omega
            simp [this, he]
      · have : i ≠ k := by omega
        simp [hi, this]
    unfold low
    by_cases hs : s.getLsbD k = true
    · rw [if_pos hs, BitVec.getLsbD_xor, ih, hone]
      by_cases he : i = k
      · subst he; simp [hs]
      · have : (decide (i < k + 1)) = decide (i < k) := by simp; omega
        simp [he, this]
    · rw [if_neg hs, ih]
      by_cases he : i = k
      · subst he; simp at hs; simp [hs]
      · have : (decide (i < k + 1)) = decide (i < k) := by simp; omega
        rw [this]
theorem low_all (s : BitVec 32) : low s 32 = s := by
  apply BitVec.eq_of_getLsbD_eq
  intro i hi
  rw [low_bit s 32 (by omega)]; simp [hi]
theorem ofTo_adv (n : Nat) (M : Nat → BitVec 32) (hM : ∀ i, i < 32 → M i = adv n (1#32 <<< i)) (s : BitVec 32) (k : Nat) (hk : k ≤ 32) : ofTo M s k = adv n (low s k) := by
  induction k with
  | zero => simp [ofTo, low, adv_zero]
  | succ k ih =>
    unfold ofTo low
    rw [ih (by omega), hM k (by omega)]
    split
    · rw [adv_xor]
    · rfl
theorem ofTo_all (n : Nat) (M : Nat → BitVec 32) (hM : ∀ i, i < 32 → M i = adv n (1#32 <<< i)) (s : BitVec 32) : ofTo M s 32 = adv n s := by
  rw [ofTo_adv n M hM s 32 (by omega), low_all]
theorem bit_int (x : BitVec 32) (k : Nat) (hk : k < 32) : bits .and .u32 ((x.toNat : Int) / 2 ^ k) 1 = if x.getLsbD k then 1 else 0 := by
  have h1 : (x.toNat : Int) / (2 : Int) ^ k = ((x >>> k).toNat : Int) := by
    rw [BitVec.toNat_ushiftRight, Nat.shiftRight_eq_div_pow]; norm_cast
  rw [h1]
  have := bits_and (x >>> k) 1#32
  rw [show ((1#32 : BitVec 32).toNat : Int) = 1 by rfl] at this
  rw [this]
  have e : (x >>> k) &&& 1#32 = if x.getLsbD k then 1#32 else 0#32 := by
    apply BitVec.eq_of_getLsbD_eq
    intro i hi
    rw [BitVec.getLsbD_and, BitVec.getLsbD_ushiftRight]
    by_cases hi0 : i = 0
    · subst hi0; simp only [Nat.add_zero]; cases x.getLsbD k <;> rfl
    · have : (1#32).getLsbD i = false := by rw [BitVec.getLsbD_one]; simp; omega
      rw [this]
      cases x.getLsbD k
      · simp
      · simp [hi0]
  rw [e]
  split <;> rfl
theorem one_shl (k : Nat) : IntKind.u32.wrap (1 * 2 ^ k) = ((1#32 <<< k).toNat : Int) := by
  have : (1#32 <<< k).toNat = 2 ^ k % 2 ^ 32 := by
    rw [BitVec.toNat_shiftLeft, Nat.shiftLeft_eq]; simp
  rw [this]
  simp only [IntKind.wrap, IntKind.bits, IntKind.signed]
  simp

/-! ### The names under which the walk meets all this: it opens none of them. -/
/-- A sum as Go's number. -/
def un (x : BitVec 32) : Int := (x.toNat : Int)
def xorB (x y : BitVec 32) : BitVec 32 := x ^^^ y
def byteB (c : Nat) : BitVec 32 := BitVec.ofNat 32 c
def notB (x : BitVec 32) : BitVec 32 := ~~~ x
def bitB (x : BitVec 32) (k : Nat) : Bool := x.getLsbD k
def oneB (k : Nat) : BitVec 32 := 1#32 <<< k
/-- half's index. -/
def loN (x : BitVec 32) : Nat := x.toNat % 16
def hiI (x : BitVec 32) : Int := ((x >>> 4).toNat : Int)
theorem un_range (x : BitVec 32) : 0 ≤ un x ∧ un x ≤ 4294967295 := by unfold un; have := x.isLt; omega
theorem un_inj {x y : BitVec 32} (h : un x = un y) : x = y := BitVec.eq_of_toNat_eq (by unfold un at h; omega)
theorem un_of (n : Int) (h0 : 0 ≤ n) (h1 : n ≤ 4294967295) : un (BitVec.ofNat 32 n.toNat) = n := by
  unfold un; rw [BitVec.toNat_ofNat]; omega
theorem w_xor (x y : BitVec 32) : bits .xor .u32 (un x) (un y) = un (xorB x y) := bits_xor x y
theorem w_byte (x : BitVec 32) (c : Nat) (h : c < 256) : bits .xor .u32 (un x) (c : Int) = un (xorB x (byteB c)) := byte_int x c h
theorem w_not (x : BitVec 32) : bits .xor .u32 IntKind.u32.max (un x) = un (notB x) := not_int x
theorem w_and15 (x : BitVec 32) : bits .and .u32 (un x) 15 = (loN x : Int) := and15 x
theorem loN_lt (x : BitVec 32) : loN x < 16 := Nat.mod_lt _ (by omega)
theorem w_half (x : BitVec 32) : bits .xor .u32 (un x / 16) (tab (loN x)) = un (half x) := half_int x
theorem w_bit (x : BitVec 32) (k : Nat) (hk : k < 32) : bits .and .u32 (un x / 2 ^ k) 1 = if bitB x k then 1 else 0 := bit_int x k hk
theorem w_one (k : Nat) : IntKind.u32.wrap (2 ^ k) = un (oneB k) := by have := one_shl k; rw [Int.one_mul] at this; exact this

theorem i64_and1 (n : Int) (h0 : 0 ≤ n) (h1 : n ≤ 9223372036854775807) : bits .and .i64 n 1 = n % 2 := by
  obtain ⟨m, rfl⟩ := Int.eq_ofNat_of_zero_le h0
  show IntKind.i64.wrap ((BitVec.ofInt 64 (m : Int) &&& BitVec.ofInt 64 1).toNat : Int) = _
  have e : (BitVec.ofInt 64 (m : Int)).toNat = m := by rw [BitVec.ofInt_natCast, BitVec.toNat_ofNat]; omega
  have e1 : (BitVec.ofInt 64 1).toNat = 2 ^ 1 - 1 := by decide
  rw [BitVec.toNat_and, e, e1, Nat.and_two_pow_sub_one_eq_mod]
  simp [IntKind.wrap, IntKind.bits, IntKind.signed]
  omega
theorem xor8_lt (x y : Nat) (hx : x < 256) (hy : y < 256) : x ^^^ y < 256 := Nat.xor_lt_two_pow (n := 8) hx hy
theorem w_xor8 (x y : Nat) (hx : x < 256) (hy : y < 256) : bits .xor .u8 (x : Int) (y : Int) = ((x ^^^ y : Nat) : Int) := by
  have h := xor8_lt x y hx hy
  show IntKind.u8.wrap ((BitVec.ofInt 8 (x : Int) ^^^ BitVec.ofInt 8 (y : Int)).toNat : Int) = _
  have e : ∀ z : Nat, z < 256 → (BitVec.ofInt 8 (z : Int)).toNat = z := fun z hz => by rw [BitVec.ofInt_natCast, BitVec.toNat_ofNat]; omega
  rw [BitVec.toNat_xor, e x hx, e y hy]
  simp [IntKind.wrap, IntKind.bits, IntKind.signed]
  omega
/-! ### The document's own words -/
theorem w_sub (x : BitVec 32) : 4294967295 - un x = un (notB x) := by
  unfold un notB; rw [BitVec.toNat_not]; have := x.isLt; omega
theorem bit0_mod (x : BitVec 32) : x.getLsbD 0 = decide (x.toNat % 2 = 1) := by
  rw [BitVec.getLsbD, Nat.testBit_zero]
theorem w_even (x : BitVec 32) (h : x.getLsbD 0 = true) : (un x % 2 == 1) = true := by
  rw [bit0_mod] at h; unfold un; simp at h ⊢; omega
theorem w_odd (x : BitVec 32) (h : x.getLsbD 0 = false) : (un x % 2 == 1) = false := by
  rw [bit0_mod] at h; unfold un; simp at h ⊢; omega
theorem un_half2 (x : BitVec 32) : un x / (2 : Int) = un (x >>> 1) := by
  unfold un; rw [BitVec.toNat_ushiftRight, Nat.shiftRight_eq_div_pow]; rfl
theorem w_step1 (x : BitVec 32) (h : x.getLsbD 0 = true) : bits .xor .u32 (un x / 2) 3988292384 = un (stp x) := by
  rw [un_half2]
  have := w_xor (x >>> 1) poly
  rw [show un poly = 3988292384 by rfl] at this
  rw [this]; unfold stp; rw [h]; rfl
theorem w_step0 (x : BitVec 32) (h : x.getLsbD 0 = false) : un x / 2 = un (stp x) := by
  rw [un_half2]; unfold stp; rw [h]; simp
/-- A text's bytes. -/
def sb (s : ByteArray) : List Nat := s.data.toList.map UInt8.toNat
theorem sb_length (s : ByteArray) : (sb s).length = s.size := by simp [sb]
theorem sb_lt (s : ByteArray) : ∀ u ∈ sb s, u < 256 := by
  intro u hu
  simp only [sb, List.mem_map] at hu
  obtain ⟨c, _, rfl⟩ := hu
  exact c.toNat_lt
theorem sb_at (s : ByteArray) (k : Nat) (h : k < s.size) : (s[k]'h).toNat = (sb s).getD k 0 := by
  have hk : k < (sb s).length := by rw [sb_length]; exact h
  rw [List.getD_eq_getElem?_getD, List.getElem?_eq_getElem hk]
  simp [sb]; rfl
end Go.Proofs.YtjecjiopbkoihaaDoor.Crc
