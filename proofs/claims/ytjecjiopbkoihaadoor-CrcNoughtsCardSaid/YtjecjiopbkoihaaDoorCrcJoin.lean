/- The walks of crc's moves: of, twice; of crc.Join. -/
import Derived.Test.YtjecjiopbkoihaaDoorCrcWalk
import Derived.Deep.QuietTactic
import Derived.BigQuiet
namespace Go.Proofs.YtjecjiopbkoihaaDoor.Crc
open Go Go.RowKit Mem

/-- 32 sums stand in a block. -/
def Moves (w : World) (b : Nat) (M : Nat → BitVec 32) : Prop := ∀ i : Nat, i < 32 → w.cell? ⟨b, i, none⟩ = some (.int .u32 (un (M i)))
theorem Moves.drewN {w : World} {b : Nat} {M : Nat → BitVec 32} (h : Moves w b M) (n : Nat) : Moves (w.drewN n) b M := h
theorem Moves.below {w w' : World} {b B : Nat} {M : Nat → BitVec 32} (h : Moves w b M) (hb : Below B w w') (hB : b < B) : Moves w' b M := fun i hi => (hb.cell (p := ⟨b, i, none⟩) hB).trans (h i hi)

theorem ofTo_yes (M : Nat → BitVec 32) (s : BitVec 32) (k : Nat) (h : bitB s k = true) : un (xorB (ofTo M s k) (M k)) = un (ofTo M s (k + 1)) := by
  unfold bitB at h; simp only [ofTo, h, if_true]; rfl
theorem ofTo_no (M : Nat → BitVec 32) (s : BitVec 32) (k : Nat) (h : bitB s k = false) : un (ofTo M s k) = un (ofTo M s (k + 1)) := by
  unfold bitB at h; simp [ofTo, h]

theorem of_any (s : BitVec 32) (M : Nat → BitVec 32) (b : Nat) (w : World) (hM : Moves w b M) :
    Calls Tryd.prog 19 #[.pointer (some ⟨b, 0, none⟩), .int .u32 (un s)] w fun e w' => e = .returned (.int .u32 (un (ofTo M s 32))) ∧ ∃ n, w' = w.drewN n := by
  have hu := un_range s
  go_enter Tryd.func19, Tryd.ntmps19
  go_wp2
  go_loopw [4, 8] (fun v i wr => ∃ k n : Nat, k ≤ 32 ∧ i = .int .i64 k ∧ v = .int .u32 (un (ofTo M s k)) ∧ wr = w.drewN n) (fun _ i _ => 32 - (intOf i).toNat)
  case atStart => exact ⟨0, 0, Nat.zero_le _, rfl, rfl, rfl⟩
  case round =>
    obtain ⟨k, n, hk, rfl, rfl, rfl⟩ := hrel
    by_cases hlt : k < 32
    · have hc := hM k hlt
      have hbit := w_bit s k hlt
      have HX := Lib.hid (w_xor (ofTo M s k) (M k))
      go_wp2
      go_quiet (fail)
      cases hb : bitB s k
      · have HN := Lib.hid (ofTo_no M s k hb)
        have hbit' : bits .and .u32 (un s / 2 ^ k) 1 = 0 := by rw [hbit, hb]; rfl
        clear hbit hb hM
        go_wp2
        go_roundw
        case rel => exact ⟨k + 1, _, by omega, by go_num, by rw [HN.out], rfl⟩
        case measure => simp [intOf]; omega
      · have HN := Lib.hid (ofTo_yes M s k hb)
        have hbit' : bits .and .u32 (un s / 2 ^ k) 1 = 1 := by rw [hbit, hb]; rfl
        clear hbit hb hM
        go_wp2
        go_roundw
        case rel => exact ⟨k + 1, _, by omega, by go_num, by rw [← HN.out, ← HX.out], rfl⟩
        case measure => simp [intOf]; omega
    · obtain rfl : k = 32 := by omega
      go_wp2
      go_ret
      exact ⟨rfl, n, rfl⟩

/-- A table of 32 sums as Go's array. -/
def movesV (M : Nat → BitVec 32) : Array Value := ((List.range 32).map fun i => Value.int .u32 (un (M i))).toArray
theorem movesV_size (M : Nat → BitVec 32) : (movesV M).size = 32 := by simp [movesV]
theorem movesV_at (M : Nat → BitVec 32) (i : Nat) (h : i < 32) : (movesV M)[i]? = some (.int .u32 (un (M i))) := by
  simp [movesV, h]
theorem movesV_one (M : Nat → BitVec 32) : (movesV M).all (·.oneCell') = true := by
  rw [Array.all_eq_true_iff_forall_mem]
  intro v hv
  simp only [movesV, List.mem_toArray, List.mem_map] at hv
  obtain ⟨i, _, rfl⟩ := hv
  rfl
def upTo (k : Nat) (N : Nat → BitVec 32) : Nat → BitVec 32 := fun i => if i < k then N i else 0#32
theorem movesV_set (k : Nat) (N : Nat → BitVec 32) (hk : k < 32) : (movesV (upTo k N)).setIfInBounds k (.int .u32 (un (N k))) = movesV (upTo (k + 1) N) := by
  apply Array.ext_getElem?
  intro i
  rw [Array.getElem?_setIfInBounds, movesV_size]
  by_cases hi : i < 32
  · rw [movesV_at _ _ hi, movesV_at _ _ hi]
    by_cases he : k = i
    · subst he; simp [hk, upTo]
    · rw [if_neg he]
      have : (i < k + 1) ↔ (i < k) := by omega
      simp [upTo, this]
  · have e1 : (movesV (upTo k N))[i]? = none := Array.getElem?_eq_none (by rw [movesV_size]; omega)
    have e2 : (movesV (upTo (k + 1) N))[i]? = none := Array.getElem?_eq_none (by rw [movesV_size]; omega)
    rw [e1, e2]; split <;> first | rfl | omega
theorem movesV_all (N : Nat → BitVec 32) : movesV (upTo 32 N) = movesV N := rfl
theorem movesV_none (N : Nat → BitVec 32) : movesV (upTo 0 N) = #[.int .u32 0, .int .u32 0, .int .u32 0, .int .u32 0, .int .u32 0, .int .u32 0, .int .u32 0, .int .u32 0, .int .u32 0, .int .u32 0, .int .u32 0, .int .u32 0, .int .u32 0, .int .u32 0, .int .u32 0, .int .u32 0,
    .int .u32 0, .int .u32 0, .int .u32 0, .int .u32 0, .int .u32 0, .int .u32 0, .int .u32 0, .int .u32 0, .int .u32 0, .int .u32 0, .int .u32 0, .int .u32 0, .int .u32 0, .int .u32 0, .int .u32 0, .int .u32 0] := rfl
theorem moves_blk {w : World} {g : Nat} {t : TypeId} {M : Nat → BitVec 32} (h : Blk w g t (movesV M)) : Moves w g M := fun i hi => by rw [h.cell, movesV_at M i hi]

theorem inf_u32 : (Tryd.prog.info? 23).map (fun i => (i.zero, i.size, i.bytes)) = some (some (.int .u32 0), 1, 4) := by kernel_rfl
theorem sz_moves (M : Nat → BitVec 32) : (Tryd.prog.info? 40).map (·.size) = some (movesV M).size := by rw [movesV_size]; kernel_rfl
theorem run_index_moves (M : Nat → BitVec 32) (w : World) (k : Nat) (hk : k < 32) : (Instr.index 40 (.agg (movesV M)) (.int .i64 (k : Int))).run Tryd.prog w = .ok (.int .u32 (un (M k))) w := by
  obtain ⟨i0, hi, hz0, hz1, hz2⟩ := info_parts inf_u32
  exact run_index_arr w _ 23 32 _ _ k _ i0 Tryd.underlying40 hi hz1 (by kernel_rfl) hk (movesV_at M k hk)

set_option maxHeartbeats 400000 in
theorem twice_any (M : Nat → BitVec 32) (w : World) :
    Calls Tryd.prog 20 #[.agg (movesV M)] w fun e w' => e = .returned (.agg (movesV fun i => ofTo M (M i) 32)) ∧ Below w.heap.size w w' := by
  go_enter Tryd.func20, Tryd.ntmps20
  go_wp2_with (refine wpList_load_row rfl 40 (.tmp 1) rfl w.heap.size rfl 40 (movesV M) (0, 0) _ (((Blk.new w _ (movesV M)).alloc _).alloc _) Tryd.underlying40 rfl (sz_moves M) ?_)
  go_loopw [7] (fun i wr => ∃ k : Nat, k ≤ 32 ∧ i = .int .i64 k ∧ Blk wr w.heap.size 40 (movesV M) ∧ Blk wr (w.heap.size + 1) 40 (movesV (upTo 0 M)) ∧
      Blk wr (w.heap.size + 1 + 1) 40 (movesV (upTo k fun i => ofTo M (M i) 32)) ∧ Below w.heap.size w wr) (fun i _ => 32 - (intOf i).toNat)
  case atStart =>
    exact ⟨0, Nat.zero_le _, rfl, (((Blk.new w _ (movesV M)).alloc _).alloc _), (Blk.newAt (by simp) _ (movesV (upTo 0 M))).alloc _, Blk.newAt (by simp) _ (movesV (upTo 0 fun i => ofTo M (M i) 32)),
      (((Below.refl _ _).alloc (Nat.le_refl _) _).alloc (by simp) _).alloc (by simp; omega) _⟩
  case round =>
    obtain ⟨k, hk, rfl, b1, b2, b3, hbel⟩ := hrel
    by_cases hlt : k < 32
    · have hidx := run_index_moves M wr k hlt
      have hm1 := moves_blk b1
      have hc3 : wr.cell? ⟨w.heap.size + 1 + 1, k, none⟩ = some (.int .u32 (un (upTo k (fun i => ofTo M (M i) 32) k))) := by rw [b3.cell, movesV_at _ _ hlt]
      have hf3 := b3.frozen k
      have B1 := Lib.hid b1; have B2 := Lib.hid b2; have B3 := Lib.hid b3; have BB := Lib.hid hbel
      clear b1 b2 b3 hbel
      go_wp2_with (go_at_call 19; refine (of_any (M k) M w.heap.size wr hm1).mono ?_; rintro e w' ⟨rfl, n, rfl⟩)
      go_roundw
      case rel => exact ⟨k + 1, by omega, by go_num, (B1.out.drewN n).far (show w.heap.size ≠ w.heap.size + 1 + 1 by omega) _, (B2.out.drewN n).far (show w.heap.size + 1 ≠ w.heap.size + 1 + 1 by omega) _, by rw [← movesV_set k _ hlt]; exact (B3.out.drewN n).set_ k _, (below_drewN BB.out n).setCell (by simp; omega) _⟩
      case measure => simp [intOf]; omega
    · obtain rfl : k = 32 := by omega
      rw [movesV_all] at b3
      go_wp2_with (first
        | (refine wpList_load_row rfl 40 (.tmp 3) rfl (w.heap.size + 1 + 1) rfl 40 _ (0, 0) _ b3 Tryd.underlying40 rfl (sz_moves _) ?_)
        | (refine wpList_store_row rfl 40 (.tmp 2) (.tmp 16) rfl (w.heap.size + 1) _ rfl rfl 40 _ b2 (sz_moves _) (by rw [movesV_size, movesV_size]) (movesV_one _) ?_))
      exact bodyPost_ret (results_cell_row rfl _ _ (w.heap.size + 1) 40 _ (0, 0) _ rfl (b2.setRow _) Tryd.underlying40 rfl (sz_moves _)) rfl ⟨rfl, below_setRow hbel (by omega) _⟩

/-- What p bytes of nought do to each bit of a sum. -/
def pw (p : Nat) : Nat → BitVec 32 := fun i => adv (8 * p) (oneB i)
theorem pw_twice (p : Nat) : (fun i => ofTo (pw p) (pw p i) 32) = pw (p + p) := by
  funext i
  show ofTo (pw p) (pw p i) 32 = _
  rw [ofTo_all (8 * p) (pw p) (fun _ _ => rfl)]
  unfold pw
  rw [← adv_add]; congr 1; omega
theorem pw_of (p : Nat) (s : BitVec 32) : ofTo (pw p) s 32 = adv (8 * p) s := ofTo_all (8 * p) (pw p) (fun _ _ => rfl) s
theorem pw_one (i : Nat) : half (half (oneB i)) = pw 1 i := half_half _

/-- What is left to do: m rounds' worth of p bytes each, of all n. -/
def Todo (a x : BitVec 32) (n p : Nat) (m : Int) : Prop := adv (8 * (p * m.toNat)) x = adv (8 * n) a
theorem Todo.odd {a x : BitVec 32} {n p : Nat} {m : Int} (h : Todo a x n p m) (hm : 0 < m) (ho : m % 2 = 1) : Todo a (adv (8 * p) x) n (p + p) (m / 2) := by
  unfold Todo at h ⊢
  rw [← h, ← adv_add]
  congr 1
  obtain ⟨k, hk⟩ : ∃ k : Nat, m = 2 * k + 1 := ⟨(m / 2).toNat, by omega⟩
  have e1 : m.toNat = 2 * k + 1 := by omega
  have e2 : (m / 2).toNat = k := by omega
  have e3 : p * (2 * k + 1) = p + (p + p) * k := by
    rw [Nat.mul_add, Nat.mul_one, ← Nat.mul_assoc p 2 k, Nat.mul_comm p 2, Nat.two_mul, Nat.add_comm]
  rw [e1, e2, e3, Nat.mul_add]
theorem Todo.even {a x : BitVec 32} {n p : Nat} {m : Int} (h : Todo a x n p m) (hm : 0 < m) (ho : m % 2 = 0) : Todo a x n (p + p) (m / 2) := by
  unfold Todo at h ⊢
  rw [← h]
  obtain ⟨k, hk⟩ : ∃ k : Nat, m = 2 * k := ⟨(m / 2).toNat, by omega⟩
  have e1 : m.toNat = 2 * k := by omega
  have e2 : (m / 2).toNat = k := by omega
  rw [e1, e2, Nat.add_mul, ← Nat.mul_assoc p 2 k, Nat.mul_comm p 2, Nat.mul_assoc, Nat.two_mul]
theorem Todo.done {a x : BitVec 32} {n p : Nat} {m : Int} (h : Todo a x n p m) (hm : m ≤ 0) : x = adv (8 * n) a := by
  unfold Todo at h
  rw [show m.toNat = 0 by omega] at h
  exact h

set_option maxHeartbeats 400000 in
theorem join_any (a b : BitVec 32) (n : Int) (w : World) (ht : Tab w) (hn : n ≤ 9223372036854775807) :
    Calls Tryd.prog 15 #[.int .u32 (un a), .int .u32 (un b), .int .i64 n] w fun e w' => e = .returned (.int .u32 (un (join a b n.toNat))) ∧ Below w.heap.size w w' := by
  go_enter Tryd.func15, Tryd.ntmps15
  go_wp2
  go_loopw [9] (fun i wr => ∃ k : Nat, k ≤ 32 ∧ i = .int .i64 k ∧ Blk wr w.heap.size 40 (movesV (upTo k (pw 1))) ∧ Below w.heap.size w wr) (fun i _ => 32 - (intOf i).toNat)
  case atStart => exact ⟨0, Nat.zero_le _, rfl, Blk.newAt rfl _ (movesV (upTo 0 (pw 1))), (Below.refl _ _).alloc (Nat.le_refl _) _⟩
  case round =>
    obtain ⟨k, hk, rfl, b1, hbel⟩ := hrel
    have ht' := ht.below hbel ht.pos
    by_cases hlt : k < 32
    · have hone := w_one k
      have hc1 : wr.cell? ⟨w.heap.size, k, none⟩ = some (.int .u32 (un (upTo k (pw 1) k))) := by rw [b1.cell, movesV_at _ _ hlt]
      have hf1 := b1.frozen k
      have B1 := Lib.hid b1; have BB := Lib.hid hbel
      have HP := Lib.hid (pw_one k)
      clear b1 hbel
      go_wp2_with (go_at_call 17; refine (half_any _ _ ht').mono ?_; rintro e w' ⟨rfl, rfl⟩)
      go_roundw
      case rel => exact ⟨k + 1, by omega, by go_num, by rw [HP.out, ← movesV_set k _ hlt]; exact B1.out.set_ k _, BB.out.setCell (Nat.le_refl _) _⟩
      case measure => simp [intOf]; omega
    · have hk32 : k = 32 := by omega
      rw [hk32, movesV_all] at b1
      have H32 := Lib.hid hk32
      clear hk32
      go_wp2
      go_loopw [0, 2] (fun v m wr => ∃ (x : BitVec 32) (p : Nat) (q : Int), v = .int .u32 (un x) ∧ m = .int .i64 q ∧ q ≤ 9223372036854775807 ∧ Todo a x n.toNat p q ∧
          Blk wr w.heap.size 40 (movesV (pw p)) ∧ Below w.heap.size w wr) (fun _ m _ => (intOf m).toNat)
      case atStart => exact ⟨a, 1, n, rfl, rfl, hn, by unfold Todo; rw [Nat.one_mul], b1, hbel⟩
      case round =>
        obtain ⟨x, p, q, rfl, rfl, hq, htodo, b1, hbel⟩ := hrel
        by_cases hpos : 0 < q
        · have hand := i64_and1 q (by omega) hq
          have hm1 := moves_blk b1
          have hfin : ∀ (W W2 : World) (y : BitVec 32), Below wr.heap.size wr W → Below W.heap.size W W2 → Todo a y n.toNat (p + p) (q / 2) → ∃ (x : BitVec 32) (p2 : Nat) (r : Int),
              Value.int .u32 (un y) = .int .u32 (un x) ∧ Value.int .i64 (q / 2) = .int .i64 r ∧ r ≤ 9223372036854775807 ∧ Todo a x n.toNat p2 r ∧
              Blk (W2.setRow w.heap.size (movesV fun i => ofTo (pw p) (pw p i) 32)) w.heap.size 40 (movesV (pw p2)) ∧ Below w.heap.size w (W2.setRow w.heap.size (movesV fun i => ofTo (pw p) (pw p i) 32)) := by
            intro W W2 y h1 h2 h3
            have b2 : Blk W2 w.heap.size 40 (movesV (pw p)) := (b1.below h1 b1.lt).below h2 (Nat.lt_of_lt_of_le b1.lt h1.size)
            refine ⟨y, p + p, q / 2, rfl, rfl, by omega, h3, ?_, ?_⟩
            · have := b2.setRow (movesV fun i => ofTo (pw p) (pw p i) 32)
              rw [pw_twice] at this ⊢
              exact this
            · refine below_setRow ((hbel.trans ((h1.trans (h2.mono h1.size)).mono hbel.size))) (Nat.le_refl _) _
          have BB := Lib.hid hbel
          have FF := Lib.hid hfin
          clear hbel hfin
          rcases (by omega : q % 2 = 1 ∨ q % 2 = 0) with ho | he
          · have T2 := Lib.hid (htodo.odd hpos ho)
            rw [ho] at hand
            clear htodo ho
            go_wp2_with (first
              | (go_at_call 19; refine (of_any x (pw p) w.heap.size wr hm1).mono ?_; rintro e w' ⟨rfl, nq, rfl⟩)
              | (refine wpList_load_row rfl 40 (.tmp 7) rfl w.heap.size rfl 40 (movesV (pw p)) (0, 0) _ b1 Tryd.underlying40 rfl (sz_moves _) ?_)
              | (go_at_call 20; refine (twice_any (pw p) _).mono ?_; rintro e w2 ⟨rfl, hb2⟩)
              | (refine wpList_store_row rfl 40 (.tmp 7) (.tmp 29) rfl w.heap.size _ rfl rfl 40 (movesV (pw p)) (Blk.below (b1.drewN nq) hb2 b1.lt) (sz_moves _) (by rw [movesV_size, movesV_size]) (movesV_one _) ?_))
            go_roundw
            case rel => exact FF.out (wr.drewN nq) w2 (ofTo (pw p) x 32) (below_drewN (Below.refl _ _) nq) hb2 (by rw [pw_of]; exact T2.out)
            case measure => simp [intOf]; omega
          · have T2 := Lib.hid (htodo.even hpos he)
            rw [he] at hand
            clear htodo he
            go_wp2_with (first
              | (refine wpList_load_row rfl 40 (.tmp 7) rfl w.heap.size rfl 40 (movesV (pw p)) (0, 0) _ b1 Tryd.underlying40 rfl (sz_moves _) ?_)
              | (go_at_call 20; refine (twice_any (pw p) _).mono ?_; rintro e w2 ⟨rfl, hb2⟩)
              | (refine wpList_store_row rfl 40 (.tmp 7) (.tmp 29) rfl w.heap.size _ rfl rfl 40 (movesV (pw p)) (Blk.below b1 hb2 b1.lt) (sz_moves _) (by rw [movesV_size, movesV_size]) (movesV_one _) ?_))
            go_roundw
            case rel => exact FF.out wr w2 _ (Below.refl _ _) hb2 T2.out
            case measure => simp [intOf]; omega
        · have HX := Lib.hid (w_xor x b)
          have HD := Lib.hid (htodo.done (by omega))
          clear htodo
          go_wp2
          go_ret
          exact ⟨by rw [HX.out, HD.out]; rfl, hbel⟩
end Go.Proofs.YtjecjiopbkoihaaDoor.Crc
