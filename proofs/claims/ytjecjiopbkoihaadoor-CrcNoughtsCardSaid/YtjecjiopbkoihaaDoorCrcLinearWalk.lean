/- The walk of CrcLinear. -/
import Derived.Test.YtjecjiopbkoihaaDoorCrcEndsWalk
import Derived.BigRegion
import Derived.BigQuiet
namespace Go.Proofs.YtjecjiopbkoihaaDoor.Crc
open Go Go.RowKit Mem

theorem run_min_int4 {P : Program} (ts : Array TypeId) (t : TypeId) (k k' k'' k3 : IntKind) (x y z u : Int) (w : World) : (Builtin.min_ ts t #[.int k x, .int k' y, .int k'' z, .int k3 u]).run P w = .ok (.int k (min (min (min x y) z) u)) w := by
  simp [Builtin.min_, Builtin.min2]
  simp only [Int.min_def]
  (repeat' split) <;> first | rfl | omega

/-- Byte j of three rows, xored. -/
def x3 (a b c : List Nat) (j : Nat) : Nat := bte a j ^^^ bte b j ^^^ bte c j
theorem xor3_length : ∀ (a b c : List Nat), a.length = b.length → b.length = c.length → (xor3 a b c).length = a.length
  | [], [], [], _, _ => rfl
  | _ :: a, _ :: b, _ :: c, h1, h2 => by simp only [xor3, List.length_cons]; rw [xor3_length a b c (by simpa using h1) (by simpa using h2)]
theorem xor3_at : ∀ (a b c : List Nat) (j : Nat), a.length = b.length → b.length = c.length → j < a.length → (xor3 a b c).getD j 0 = x3 a b c j
  | [], _, _, j, _, _, h => by simp at h
  | a :: l, b :: m, c :: n, 0, _, _, _ => rfl
  | a :: l, b :: m, c :: n, j + 1, h1, h2, h => by
    have := xor3_at l m n j (by simpa using h1) (by simpa using h2) (by simpa using h)
    simpa [xor3, x3, bte] using this
theorem xor3_lt : ∀ (a b c : List Nat), (∀ u ∈ a, u < 256) → (∀ u ∈ b, u < 256) → (∀ u ∈ c, u < 256) → ∀ u ∈ xor3 a b c, u < 256
  | a :: l, b :: m, c :: n, h1, h2, h3, u, hu => by
    simp only [xor3, List.mem_cons] at hu
    rcases hu with rfl | hu
    · exact xor8_lt _ _ (xor8_lt _ _ (h1 _ (by simp)) (h2 _ (by simp))) (h3 _ (by simp))
    · exact xor3_lt l m n (fun v hv => h1 v (by simp [hv])) (fun v hv => h2 v (by simp [hv])) (fun v hv => h3 v (by simp [hv])) u hu
  | [], _, _, _, _, _, u, hu => by simp [xor3] at hu
  | _ :: _, [], _, _, _, _, u, hu => by simp [xor3] at hu
  | _ :: _, _ :: _, [], _, _, _, u, hu => by simp [xor3] at hu

set_option maxHeartbeats 1600000 in
theorem linear_walk (A : Option Addr) (n c : Nat) (l : List Nat) (A' : Option Addr) (n' c' : Nat) (l' : List Nat) (A'' : Option Addr) (n'' c'' : Nat) (l'' : List Nat) (w : World) (ht : Tab w)
    (hr : Row w w.heap.size 1 A n (byts l)) (hn : l.length = n) (hnc : n ≤ c) (hc : c ≤ maxLen) (hl : ∀ u ∈ l, u < 256)
    (hr' : Row w w.heap.size 1 A' n' (byts l')) (hn' : l'.length = n') (hnc' : n' ≤ c') (hc' : c' ≤ maxLen) (hl' : ∀ u ∈ l', u < 256)
    (hr'' : Row w w.heap.size 1 A'' n'' (byts l'')) (hn'' : l''.length = n'') (hnc'' : n'' ≤ c'') (hc'' : c'' ≤ maxLen) (hl'' : ∀ u ∈ l'', u < 256) :
    Calls Tryd.prog 7 #[.slice A n c, .slice A' n' c', .slice A'' n'' c''] w fun e w' => e = .returned (.bool true) ∧ Below w.heap.size w w' := by
  unfold maxLen at hc hc' hc''
  obtain ⟨i0, hi, hz0, hz1, hz2⟩ := info_parts inf_u8
  obtain ⟨k, hk1, hk2, hk3, hk4, hmin⟩ : ∃ k : Nat, k ≤ n ∧ k ≤ n' ∧ k ≤ n'' ∧ k ≤ 1000 ∧ min (min (min (n : Int) n') n'') 1000 = (k : Int) := ⟨min (min (min n n') n'') 1000, by omega, by omega, by omega, by omega, by omega⟩
  have hmn : ∀ ts t W, (Builtin.min_ ts t #[.int .i64 (n : Int), .int .i64 (n' : Int), .int .i64 (n'' : Int), .int .i64 1000]).run Tryd.prog W = .ok (.int .i64 (k : Int)) W := fun ts t W => by rw [run_min_int4, hmin]
  obtain ⟨La, hLa⟩ : ∃ L, L = l.take k := ⟨_, rfl⟩
  obtain ⟨Lb, hLb⟩ : ∃ L, L = l'.take k := ⟨_, rfl⟩
  obtain ⟨Lc, hLc⟩ : ∃ L, L = l''.take k := ⟨_, rfl⟩
  have la : La.length = k := by rw [hLa, List.length_take]; omega
  have lb : Lb.length = k := by rw [hLb, List.length_take]; omega
  have lc : Lc.length = k := by rw [hLc, List.length_take]; omega
  have ba : ∀ u ∈ La, u < 256 := by rw [hLa]; exact take_lt hl k
  have bb : ∀ u ∈ Lb, u < 256 := by rw [hLb]; exact take_lt hl' k
  have bc : ∀ u ∈ Lc, u < 256 := by rw [hLc]; exact take_lt hl'' k
  have ra : Row w w.heap.size 1 A k (byts La) := by rw [hLa]; exact row_take hr hk1
  have rb : Row w w.heap.size 1 A' k (byts Lb) := by rw [hLb]; exact row_take hr' hk2
  have rc : Row w w.heap.size 1 A'' k (byts Lc) := by rw [hLc]; exact row_take hr'' hk3
  have HA := Lib.hid la; have HB := Lib.hid lb; have HC := Lib.hid lc
  clear hr hl hn hr' hl' hn' hr'' hl'' hn'' hLa hLb hLc la lb lc hmin
  go_enter Tryd.func7, Tryd.ntmps7
  go_wp2_with fail
  refine (shown_any w ht).mono ?_
  rintro e w1 ⟨rfl, b1⟩
  have hs1 := b1.size
  have hp := ht.pos
  go_wp2_with (first
    | (refine wpList_make_full _ rfl (.tmp 19) (.tmp 19) 22 rfl w1.heap.size 5 i0 (.int .u8 0) 1 Tryd.underlying22 hi hz0 hz1 .i64 .i64 (k : Int) (k : Int) k rfl rfl rfl rfl (by rw [hz2]; omega) (by unfold maxLen; omega) (Nat.le_refl _) ?_
       intro w2 hown2 hg2))
  obtain ⟨X, hX⟩ : ∃ X, X = xor3 La Lb Lc := ⟨_, rfl⟩
  have lX : X.length = k := by rw [hX, xor3_length _ _ _ (HA.out.trans HB.out.symm) (HB.out.trans HC.out.symm), HA.out]
  have bX : ∀ u ∈ X, u < 256 := by rw [hX]; exact xor3_lt _ _ _ ba bb bc
  have aX : ∀ j, j < k → X.getD j 0 = x3 La Lb Lc j := fun j hj => by rw [hX]; exact xor3_at _ _ _ j (HA.out.trans HB.out.symm) (HB.out.trans HC.out.symm) (by rw [HA.out]; exact hj)
  have sX : sum X = xorB (xorB (sum La) (sum Lb)) (sum Lc) := by rw [hX]; exact sum_xor3 La Lb Lc (HA.out.trans HB.out.symm) (HB.out.trans HC.out.symm)
  have b2 : Below w.heap.size w w2 := b1.trans (⟨hg2.os, hg2.tape, hg2.output, hg2.size, fun i hi => hg2.block i (by omega) (by simp)⟩)
  have hown0 : w2.ownsRow w1.heap.size 5 1 (.slice (some ⟨w1.heap.size, 0, none⟩) k k) k (byts (prog X 0)) := by
    rw [prog_zero, byts_replicate, lX]
    have := hown2
    rw [Nat.mul_one] at this
    rw [show (Value.int .u8 0).cells = #[.int .u8 0] from rfl, toList_madeCells_one] at this
    exact this
  have HLX := Lib.hid lX; have HAX := Lib.hid aX; have HSX := Lib.hid sX
  clear hown2 hg2 lX aX sX hX hmn
  go_loopw [10] (fun i wr => ∃ j : Nat, j ≤ k ∧ i = .int .i64 j ∧ wr.ownsRow w1.heap.size 5 1 (.slice (some ⟨w1.heap.size, 0, none⟩) k k) k (byts (prog X j)) ∧ Below w.heap.size w wr) (fun i _ => k - (intOf i).toNat)
  case atStart => exact ⟨0, Nat.zero_le _, rfl, hown0, b2⟩
  case round =>
    obtain ⟨j, hj, rfl, hown, bel⟩ := hrel
    clear hown0
    by_cases hlt : j < k
    · obtain ⟨bA, oA, uA, rfl, hbA, huA, hcA⟩ := (ra.below bel).at_ hlt
      obtain ⟨bB, oB, uB, rfl, hbB, huB, hcB⟩ := (rb.below bel).at_ hlt
      obtain ⟨bC, oC, uC, rfl, hbC, huC, hcC⟩ := (rc.below bel).at_ hlt
      have hcA' : wr.cell? ⟨bA, oA + j, none⟩ = some (.int .u8 (bte La j)) := hcA.trans (congrArg some (byts_at huA (by rw [HA.out]; exact hlt)))
      have hcB' : wr.cell? ⟨bB, oB + j, none⟩ = some (.int .u8 (bte Lb j)) := hcB.trans (congrArg some (byts_at huB (by rw [HB.out]; exact hlt)))
      have hcC' : wr.cell? ⟨bC, oC + j, none⟩ = some (.int .u8 (bte Lc j)) := hcC.trans (congrArg some (byts_at huC (by rw [HC.out]; exact hlt)))
      have hcO : wr.cell? ⟨w1.heap.size, j, none⟩ = some (.int .u8 ((prog X j).getD j 0 : Nat)) := by
        rw [hown.cellAt j (by omega)]; exact byts_getD _ _ (by rw [prog_length, HLX.out]; exact hlt)
      have hfO := hown.frozenAt j
      have x1 := w_xor8 (bte La j) (bte Lb j) (byte_lt ba j) (byte_lt bb j)
      have x2 := w_xor8 (bte La j ^^^ bte Lb j) (bte Lc j) (xor8_lt _ _ (byte_lt ba j) (byte_lt bb j)) (byte_lt bc j)
      have hst := Lib.hid (hown.stored j (.int .u8 (X.getD j 0 : Nat))).1
      have hxx := Lib.hid (HAX.out j hlt)
      have BEL := Lib.hid bel
      clear hcA hcB hcC huA huB huC hown bel ra rb rc
      go_wp2
      go_region
      go_wp2
      go_roundw
      case rel =>
        refine ⟨j + 1, by omega, by go_num, ?_, (BEL.out.setCell hs1 _).drew⟩
        have h := hst.out
        rw [← byts_set, prog_set X j (by rw [HLX.out]; exact hlt), hxx.out] at h
        exact h.drew
      case measure => simp [intOf]; omega
    · obtain rfl : j = k := by omega
      have hX : prog X j = X := by have h := prog_all X; rw [HLX.out] at h; exact h
      rw [hX] at hown
      have tr := ht.below bel hp
      have oX := Row.of_own hown
      have hb1 := w_xor (sum La) (sum Lb)
      have hb2 := w_xor (xorB (sum La) (sum Lb)) (sum Lc)
      have hb3 := un_eq HSX.out
      have ra' := ra.below bel
      have rb' := rb.below bel
      have rc' := rc.below bel
      have BEL := Lib.hid bel
      have T := Lib.hid (fun q : Nat => (show Tab (wr.drewN q) from tr))
      have RX := Lib.hid (fun q : Nat => oX.drewN q)
      have RA := Lib.hid (fun q : Nat => ra'.drewN q)
      have RB := Lib.hid (fun q : Nat => rb'.drewN q)
      have RC := Lib.hid (fun q : Nat => rc'.drewN q)
      clear hX hown ra rb rc bel tr oX ra' rb' rc'
      go_wp2
      go_quiet ((go_at_call 11; (first | (with_reducible exact quiet_left (sum_row X _ _ j j _ (T.out _) (RX.out _) HLX.out bX (by omega))) | (with_reducible exact quiet_left (sum_row La A _ j c _ (T.out _) (RA.out _) HA.out ba (by omega))) | (with_reducible exact quiet_left (sum_row Lb A' _ j c' _ (T.out _) (RB.out _) HB.out bb (by omega))) | (with_reducible exact quiet_left (sum_row Lc A'' _ j c'' _ (T.out _) (RC.out _) HC.out bc (by omega))))))
      go_wp2
      go_ret
      exact ⟨by simp, below_drewN BEL.out nq⟩
end Go.Proofs.YtjecjiopbkoihaaDoor.Crc
