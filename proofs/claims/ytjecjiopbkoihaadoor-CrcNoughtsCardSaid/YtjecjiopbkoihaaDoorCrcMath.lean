/- Plain law: the CRC-32 step is linear and one to one; a sum of more bytes; joins. No program in sight. -/
import Derived.Laws.BitsAllLaws
namespace Go.Proofs.YtjecjiopbkoihaaDoor.Crc

def poly : BitVec 32 := 0xEDB88320#32
/-- A sum that a bit went by. -/
def stp (x : BitVec 32) : BitVec 32 := (x >>> 1) ^^^ (if x.getLsbD 0 then poly else 0#32)
/-- n bits of nought. -/
def adv : Nat → BitVec 32 → BitVec 32
  | 0, x => x
  | n + 1, x => adv n (stp x)

theorem xor_swap (a b c d : BitVec 32) : (a ^^^ b) ^^^ (c ^^^ d) = (a ^^^ c) ^^^ (b ^^^ d) := by
  ext i; simp only [BitVec.getElem_xor]; cases a[i] <;> cases b[i] <;> cases c[i] <;> cases d[i] <;> rfl

theorem stp_xor (x y : BitVec 32) : stp (x ^^^ y) = stp x ^^^ stp y := by
  unfold stp
  have h : ((x ^^^ y) >>> 1) = (x >>> 1) ^^^ (y >>> 1) := by
    ext i hi; simp
  rw [h, xor_swap (x >>> 1)]
  congr 1
  simp only [BitVec.getLsbD_xor]
  cases x.getLsbD 0 <;> cases y.getLsbD 0 <;> simp

theorem adv_add (m n : Nat) (x : BitVec 32) : adv (m + n) x = adv n (adv m x) := by
  induction m generalizing x with
  | zero => simp [adv]
  | succ m ih => rw [show m + 1 + n = (m + n) + 1 by omega]; simp only [adv]; exact ih _

theorem adv_succ' (n : Nat) (x : BitVec 32) : adv (n + 1) x = stp (adv n x) := by rw [adv_add n 1]; rfl

theorem adv_xor (n : Nat) (x y : BitVec 32) : adv n (x ^^^ y) = adv n x ^^^ adv n y := by
  induction n generalizing x y with
  | zero => rfl
  | succ n ih => simp only [adv, stp_xor, ih]

theorem xor_cancel {a b c d : BitVec 32} (h : a ^^^ b = c ^^^ d) (h' : b = d) : a = c := by
  subst h'
  have := congrArg (· ^^^ b) h
  simpa [BitVec.xor_assoc] using this

theorem stp_zero : stp 0#32 = 0#32 := by decide
theorem adv_zero (n : Nat) : adv n 0#32 = 0#32 := by
  induction n with
  | zero => rfl
  | succ n ih => simp only [adv, stp_zero, ih]

theorem stp_msb (x : BitVec 32) : (stp x).getLsbD 31 = x.getLsbD 0 := by
  unfold stp
  rw [BitVec.getLsbD_xor]
  have h1 : (x >>> 1).getLsbD 31 = false := by simp
  rw [h1]
  cases x.getLsbD 0
  · rfl
  · decide

theorem stp_eq_zero {x : BitVec 32} (h : stp x = 0#32) : x = 0#32 := by
  have h0 : x.getLsbD 0 = false := by rw [← stp_msb, h]; rfl
  unfold stp at h
  rw [h0] at h
  have h' : x >>> 1 = 0#32 := by simpa using h
  apply BitVec.eq_of_getLsbD_eq
  intro i hi
  by_cases hz : i = 0
  · subst hz; rw [h0]; rfl
  · have := congrArg (fun v => v.getLsbD (i - 1)) h'
    simp only [BitVec.getLsbD_ushiftRight, BitVec.getLsbD_zero] at this
    rw [show 1 + (i - 1) = i by omega] at this
    rw [this]; simp

theorem adv_eq_zero {n : Nat} {x : BitVec 32} (h : adv n x = 0#32) : x = 0#32 := by
  induction n generalizing x with
  | zero => exact h
  | succ n ih => exact stp_eq_zero (ih h)

theorem xor_eq_zero {a b : BitVec 32} (h : a ^^^ b = 0#32) : a = b := by
  have := congrArg (· ^^^ b) h
  simpa [BitVec.xor_assoc] using this

theorem adv_inj {n : Nat} {x y : BitVec 32} (h : adv n x = adv n y) : x = y := by
  apply xor_eq_zero
  apply adv_eq_zero (n := n)
  rw [adv_xor, h, BitVec.xor_self]

/-- A byte goes by. -/
def upd (s : BitVec 32) (c : Nat) : BitVec 32 := adv 8 (s ^^^ BitVec.ofNat 32 c)
def fold (s : BitVec 32) (l : List Nat) : BitVec 32 := l.foldl upd s
/-- B1. -/
def more (s : BitVec 32) (l : List Nat) : BitVec 32 := ~~~ fold (~~~ s) l
def sum (l : List Nat) : BitVec 32 := more 0#32 l
/-- B2. -/
def join (a b : BitVec 32) (n : Nat) : BitVec 32 := adv (8 * n) a ^^^ b

theorem fold_append (s : BitVec 32) (l m : List Nat) : fold s (l ++ m) = fold (fold s l) m := by simp [fold]

/-- Bytes xored bit by bit. -/
theorem fold_xor (l : List Nat) : ∀ (s t : BitVec 32), fold (s ^^^ t) l = adv (8 * l.length) s ^^^ fold t l := by
  induction l with
  | nil => intro s t; rfl
  | cons c l ih =>
    intro s t
    have e : fold (s ^^^ t) (c :: l) = fold (upd (s ^^^ t) c) l := rfl
    have e' : fold t (c :: l) = fold (upd t c) l := rfl
    have hu : upd (s ^^^ t) c = adv 8 s ^^^ upd t c := by unfold upd; rw [BitVec.xor_assoc, adv_xor]
    rw [e, e', hu, ih, List.length_cons, show 8 * (l.length + 1) = 8 + 8 * l.length by omega, adv_add]

theorem not_xor_not (a b : BitVec 32) : ~~~ (a ^^^ b) = a ^^^ ~~~ b := by
  ext i; simp only [BitVec.getElem_not, BitVec.getElem_xor]; cases a[i] <;> cases b[i] <;> rfl
theorem not_eq_xor (a b : BitVec 32) : ~~~ a = (a ^^^ b) ^^^ ~~~ b := by
  ext i; simp only [BitVec.getElem_not, BitVec.getElem_xor]; cases a[i] <;> cases b[i] <;> rfl

theorem more_append (s : BitVec 32) (l m : List Nat) : more s (l ++ m) = more (more s l) m := by
  unfold more; rw [fold_append, BitVec.not_not]

/-- More by a join. -/
theorem more_xor (s t : BitVec 32) (l : List Nat) : more (s ^^^ t) l = adv (8 * l.length) s ^^^ more t l := by
  unfold more
  rw [not_xor_not, fold_xor, not_xor_not]

theorem more_join (s : BitVec 32) (l : List Nat) : more s l = join s (sum l) l.length := by
  have := more_xor s 0#32 l
  rw [BitVec.xor_zero] at this
  exact this

theorem sum_append (l m : List Nat) : sum (l ++ m) = join (sum l) (sum m) m.length := by
  unfold sum; rw [more_append, more_join (more 0#32 l)]; rfl

theorem sum_more (l m : List Nat) : sum (l ++ m) = more (sum l) m := by unfold sum; rw [more_append]

theorem join_join (a b c : BitVec 32) (m n : Nat) : join a (join b c n) (m + n) = join (join a b m) c n := by
  unfold join
  rw [adv_xor, ← adv_add, show 8 * m + 8 * n = 8 * (m + n) by omega, BitVec.xor_assoc]

theorem join_zero (a b : BitVec 32) : join a b 0 = a ^^^ b := rfl
theorem join_inj {a b : BitVec 32} {n : Nat} (h : join a 0#32 n = join b 0#32 n) : a = b := by
  unfold join at h; simp only [BitVec.xor_zero] at h; exact adv_inj h

end Go.Proofs.YtjecjiopbkoihaaDoor.Crc
