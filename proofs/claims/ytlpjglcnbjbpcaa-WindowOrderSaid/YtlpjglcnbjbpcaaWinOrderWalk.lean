/- The walk of WindowOrder. -/
import Derived.Test.YtlpjglcnbjbpcaaWinOrderLaw
namespace Go.Proofs.Ytlpjglcnbjbpcaa.Win
open Go Go.RowKit Mem Conv Row

def OrderRel (w0 : World) (g Z n : Nat) (v7 v8 v9 v10 : Value) (w : World) : Prop :=
  ∃ (k last ack now : Nat) (es : List Ent), v7 = .int .u32 (last : Int) ∧ v8 = .int .u32 (ack : Int) ∧ v9 = .int .u64 (now : Int) ∧ v10 = .int .i64 (k : Int) ∧ k ≤ n ∧ k ≤ 100 ∧ last ≤ k ∧ now ≤ 3 * k ∧
    ack ≤ last ∧ es.length = last - ack ∧ Good es now ∧ WS w0 w g Z last es (fun _ => False)
def OrderRel2 (w0 : World) (g Z last : Nat) (es : List Ent) (Ar : Option Addr) (cr : Nat) (outs : List Out) (Fr : Option Nat) (v14 : Value) (w : World) : Prop :=
  ∃ k : Nat, v14 = .int .i64 (k : Int) ∧ k ≤ outs.length ∧ WS w0 w g Z last es (fun _ => False) ∧ Sents w Ar cr outs Fr

set_option maxRecDepth 100000 in
set_option maxHeartbeats 6400000 in
theorem order_walk (size : Int) (A : Option Addr) (n c : Nat) (l : List StepV) (w : World) (hr : Steps w A n l) :
    Calls Try.prog 10 #[.int .i64 size, .slice A n c] w fun e w' => e = .returned (.bool true) ∧ Below w.heap.size w w' := by
  obtain ⟨M, hM1, hand⟩ := Mask.and_mask16 size
  obtain ⟨S, hS⟩ : ∃ S, S = M % 21 := ⟨_, rfl⟩
  have hrem : (M : Int) % 21 = (S : Int) := by omega
  obtain ⟨Z, hZ⟩ : ∃ Z, Z = max S 1 := ⟨_, rfl⟩
  have hS20 : S ≤ 20 := by omega
  have hmx : max (S : Int) 1 = (Z : Int) := by omega
  have hZ1 : 1 ≤ Z := by omega
  have hZ20 : Z ≤ 20 := by omega
  clear hS hZ
  go_enter Try.func10, Try.ntmps10
  go_wp2_with fail
  refine (shown_any w).mono ?_
  rintro e w1 ⟨rfl, b1⟩
  have hs1 := b1.size
  go_wp2_with fail
  refine (ws_new w w1 (fun _ => False) S (by omega) b1 (fun _ h => h.elim)).mono ?_
  rintro e w2 ⟨g, rfl, W2, b2⟩
  rw [show (max (S : Int) 1).toNat = Z by omega] at W2
  have hW2 := Lib.hid W2
  clear W2
  go_wp2_with fail
  go_loopw [7, 8, 9, 10] (OrderRel w g Z n) (fun _ _ _ i _ => n - (intOf i).toNat)
  case atStart => exact ⟨0, 0, 0, 0, [], rfl, rfl, rfl, rfl, by omega, by omega, by omega, by omega, by omega, rfl, (fun e h => by simp at h), hW2.out⟩
  case round =>
    clear hW2
    obtain ⟨k, last, ack, now, es, rfl, rfl, rfl, rfl, hkn, hk100, hlk, hnk, hal, hlen, hgood, hW⟩ := hrel
    have HW := Lib.hid hW
    obtain ⟨m, hm⟩ : ∃ m, m = last - ack := ⟨_, rfl⟩
    rw [← hm] at hlen
    have hmi : (last : Int) - (ack : Int) = (m : Int) := by omega
    have hmb : m ≤ 100 := by omega
    have hw1 : IntKind.i64.wrap (m : Int) = (m : Int) := IntWalk.i64_in _ (by omega)
    have hmZ : m ≤ Z := by have := hW.bound.2.2.1; omega
    have HM := Lib.hid hm; have HL := Lib.hid hlen; have HG := Lib.hid hgood
    clear hW hm hlen hgood
    by_cases hcont : k < n ∧ k < 100
    · obtain ⟨hltn, hlt100⟩ := hcont
      obtain ⟨hln, hst⟩ := hr
      obtain ⟨b, o, rfl, hbb, hcells⟩ := hst (by omega)
      have hk0 := hcells k (by omega)
      obtain ⟨s, hs⟩ : ∃ s, s = l[k]'(by omega) := ⟨_, rfl⟩
      rw [← hs] at hk0
      have hseq : s.seq ≤ 4294967295 := hk0.2.2.2.2.2.1
      have hwt : s.wait ≤ 18446744073709551615 := hk0.2.2.2.2.2.2.2
      have HK := Lib.hid (fun w' (hb : Below w.heap.size w w') => hk0.below hb hbb)
      obtain ⟨y, hy3, hand3⟩ := and3 s.now
      obtain ⟨now1, hn1⟩ : ∃ now1, now1 = now + y := ⟨_, rfl⟩
      have hn1i : (now : Int) + (y : Int) = (now1 : Int) := by omega
      have hn1b : now1 ≤ 3 * (k + 1) := by omega
      have hnn : now ≤ now1 := by omega
      have hn300 : now1 ≤ 1000 := by omega
      have HG1 := Lib.hid (HG.out.mono hnn)
      clear hs hcells hk0 hn1 HG hnk
      obtain ⟨hc0, ⟨Ax, nx, cx, hc1, hrx, hlx, hnx, hmxx, hAx, hbx⟩, hc2, hc3, hc4⟩ := HK.out wr HW.out.below
      by_cases hk1 : s.kind = 1
      · rw [hk1] at hc0
        obtain ⟨j, hj⟩ : ∃ j, j = min nx 20 := ⟨_, rfl⟩
        have hji : min (nx : Int) 20 = (j : Int) := by omega
        have hjn : j ≤ nx := by omega
        have hj20 : j ≤ 20 := by omega
        have hjc : j ≤ cx := by omega
        have hrj : Row wr w.heap.size 1 Ax j (byts (s.x.take j)) := row_take hrx hjn
        have hrj2 : Row wr.drew wr.drew.heap.size 1 Ax j (byts (s.x.take j)) := hrj.drew.more HW.out.below.size
        have hlj : (s.x.take j).length = j := by rw [List.length_take, hlx]; omega
        have hgx : 0 < j → ∀ b o, Ax = some ⟨b, o, none⟩ → b ≠ g := fun hj b o e => by
          obtain ⟨b', o', _, e', hb', _⟩ := hrj.at_ hj
          rw [e] at e'; cases e'
          have := HW.out.lt.1; omega
        have HRJ := Lib.hid hrj2; have HLJ := Lib.hid hlj; have HGX := Lib.hid hgx
        clear hrx hlx hrj hrj2 hlj hgx hj
        by_cases hroom : m < Z
        · obtain ⟨l1, hl1⟩ : ∃ l1, l1 = last + 1 := ⟨_, rfl⟩
          obtain ⟨m1, hm1⟩ : ∃ m1, m1 = m + 1 := ⟨_, rfl⟩
          have hm1i : (l1 : Int) - (ack : Int) = (m1 : Int) := by have := HM.out; omega
          have hw2 : IntKind.i64.wrap (m1 : Int) = (m1 : Int) := IntWalk.i64_in _ (by omega)
          have hm1b : m1 ≤ 101 := by omega
          have HM1 := Lib.hid hm1; have HL1 := Lib.hid hl1
          clear hm1 hl1
          go_wp2_with fail
          go_region_law
            (first
              | (go_simp; go_at_call 16
                 refine (ws_push_room HW.out.drew Ax j cx (s.x.take j) HRJ.out HLJ.out (take_lt hbx j) hAx (by omega) HGX.out (by rw [HL.out]; exact hroom) (by omega)).mono ?_
                 rw [← HL1.out]
                 rintro e w3 ⟨en, rfl, hx, htold, htm, W3, k3⟩))
          all_goals
            have HG3 := Lib.hid (HG1.out.push en (by rw [hx, HLJ.out]; exact hj20) htold)
            have HW3 := Lib.hid W3
            have HL3 := Lib.hid (show (es ++ [en]).length = m1 by rw [List.length_append, HL.out, HM1.out]; rfl)
            clear W3 k3 hx htold htm
            go_wp2_with fail
            refine (ws_len HW3.out).mono ?_
            rw [HL3.out]
            rintro e w5 ⟨rfl, rfl⟩
            go_wp2_with fail
            go_roundw
            case rel => exact ⟨k + 1, l1, ack, now1, _, rfl, rfl, rfl, by go_num, by omega, by omega, by have := HL1.out; omega, by omega, by have := HL1.out; omega, by rw [HL3.out, HM1.out, HM.out, HL1.out]; omega, HG3.out, HW3.out⟩
            case measure => simp [intOf]; omega
        · go_wp2_with fail
          go_region_law
            (first
              | (go_simp; go_at_call 16
                 refine (ws_push_full HW.out.drew _ (.inl (by rw [HL.out]; omega))).mono ?_
                 rintro e w3 ⟨rfl, W3, -⟩))
          all_goals
            have HW3 := Lib.hid W3
            clear W3
            go_wp2_with fail
            refine (ws_len HW3.out).mono ?_
            rw [HL.out]
            rintro e w5 ⟨rfl, rfl⟩
            go_wp2_with fail
            go_roundw
            case rel => exact ⟨k + 1, last, ack, now1, _, rfl, rfl, rfl, by go_num, by omega, by omega, by omega, by omega, hal, by rw [HL.out, HM.out], HG1.out, HW3.out⟩
            case measure => simp [intOf]; omega
      · have hk1b : (s.kind == 1) = false := by simpa using hk1
        clear hrx hlx hc1 hnx hmxx hAx hbx
        by_cases hk2 : s.kind = 2
        · rw [hk2] at hc0
          obtain ⟨mn, hmn⟩ : ∃ mn, mn = min s.seq last := ⟨_, rfl⟩
          have hmni : min (s.seq : Int) (last : Int) = (mn : Int) := by omega
          obtain ⟨a2, ha2⟩ : ∃ a2, a2 = max ack mn := ⟨_, rfl⟩
          have ha2i : max (ack : Int) (mn : Int) = (a2 : Int) := by omega
          have ha2l : a2 ≤ last := by omega
          obtain ⟨m2, hm2⟩ : ∃ m2, m2 = last - a2 := ⟨_, rfl⟩
          have hm2i : (last : Int) - (a2 : Int) = (m2 : Int) := by omega
          have hw2 : IntKind.i64.wrap (m2 : Int) = (m2 : Int) := IntWalk.i64_in _ (by omega)
          have hm2b : m2 ≤ 100 := by omega
          have hdrop : (es.drop (ackN last m s.seq)).length = m2 := by
            rw [List.length_drop, HL.out]; unfold ackN; have := HM.out; omega
          have HD := Lib.hid hdrop; have HM2 := Lib.hid hm2; have HC := Lib.hid hc2
          clear hmn ha2 hm2 hdrop
          go_wp2_with fail
          refine (ws_ack HW.out s.seq hseq).mono ?_
          rw [HL.out]
          rintro e w4 ⟨rfl, W4, -⟩
          have HW4 := Lib.hid W4
          clear W4 hc0 hc2 hc3 hc4
          obtain ⟨hc0, -, hc2, hc3, hc4⟩ := HK.out w4 HW4.out.below
          go_wp2_with fail
          refine (ws_len HW4.out).mono ?_
          rw [HD.out]
          rintro e w5 ⟨rfl, rfl⟩
          go_wp2_with fail
          go_roundw
          case rel => exact ⟨k + 1, last, a2, now1, _, rfl, rfl, rfl, by go_num, by omega, by omega, by omega, by omega, ha2l, by rw [HD.out, HM2.out], HG1.out.drop _, HW4.out⟩
          case measure => simp [intOf]; omega
        · have hk2b : (s.kind == 2) = false := by simpa using hk2
          by_cases hk3 : s.kind = 3
          · rw [hk3] at hc0
            go_wp2_with fail
            refine (ws_due HW.out now1 s.wait (by omega) (by omega) (fun e he => by have := (HG1.out e he).1; omega)).mono ?_
            rintro e w5 ⟨outs, Ar, cr, Fr, rfl, W5, S5, hmap, -, -, -⟩
            obtain ⟨ho1, ho2⟩ := outs_order hmap
            have hoall : s.wait = 0 → outs.length = m := fun h0 => by
              have := outs_len hmap
              rw [h0, (dueTo_all now1 0 _ es HG1.out.again _ (Nat.le_refl _)).1, HL.out] at this
              exact this
            have hol : outs.length ≤ 100 := by
              have := outs_len hmap
              have h2 := dueTo_length now1 s.wait (last - es.length + 1) es es.length
              rw [HL.out] at h2
              rw [HL.out] at this
              omega
            have HW5 := Lib.hid (W5.weaken (H' := fun _ => False) (fun k h => h.elim)); have HS5 := Lib.hid S5; have HO1 := Lib.hid ho1; have HO2 := Lib.hid ho2; have HOA := Lib.hid hoall
            have HL5 := Lib.hid (show (es.map (mark now1 s.wait)).length = m by rw [List.length_map, HL.out])
            clear W5 S5 hmap ho1 ho2 hoall hc0 hc2 hc3 hc4
            obtain ⟨hc0, -, hc2, hc3, hc4⟩ := HK.out w5 HW5.out.below
            go_wp2_with fail
            go_loopw [14] (OrderRel2 w g Z last (es.map (mark now1 s.wait)) Ar cr outs Fr) (fun i _ => outs.length - (intOf i).toNat)
            case atStart => exact ⟨0, rfl, by omega, HW5.out, HS5.out⟩
            case round =>
              clear HW5 HS5 hc0 hc2 hc3 hc4
              obtain ⟨j, rfl, hj, hW5, hS5⟩ := hrel
              have HW5 := Lib.hid hW5; have HS5 := Lib.hid hS5
              clear hW5 hS5
              obtain ⟨hc0, -, hc2, hc3, hc4⟩ := HK.out wr HW5.out.below
              by_cases hlt : j < outs.length
              · obtain ⟨b2, o2, rfl, hb2, hd0, -⟩ := HS5.out.cells j hlt
                obtain ⟨sj, hsj⟩ : ∃ sj, sj = outs[j].seq := ⟨_, rfl⟩
                have hrange := HO1.out j hlt
                rw [← hsj] at hd0
                have h1 : decide (sj ≤ ack) = false := by simp; have := HM.out; have := HL.out; omega
                have h2 : decide (last < sj) = false := by simp; have := HM.out; have := HL.out; omega
                have hsb : sj ≤ 4294967295 := by have := HM.out; have := HL.out; omega
                clear hrange
                cases j with
                | zero =>
                  clear hsj
                  rw [Nat.zero_mul, Nat.add_zero] at hd0
                  go_wp2_with fail
                  go_quiet (fail)
                  go_wp2_with fail
                  go_roundw
                  case rel => exact ⟨1, rfl, by omega, HW5.out.drewN nq, HS5.out.keep (fun _ _ => rfl)⟩
                  case measure => simp [intOf]; omega
                | succ i =>
                  have hprev := HO2.out i hlt
                  obtain ⟨b3, o3, hbo, -, hp0, -⟩ := HS5.out.cells i (by omega)
                  cases hbo
                  obtain ⟨si, hsi⟩ : ∃ si, si = outs[i].seq := ⟨_, rfl⟩
                  rw [← hsi] at hp0 hprev
                  rw [← hsj] at hprev
                  have h3 : decide (sj ≤ si) = false := by simp; omega
                  clear hprev hsi hsj
                  obtain ⟨j', hj'⟩ : ∃ j', j' = i + 1 := ⟨_, rfl⟩
                  rw [← hj'] at hlt hj hd0
                  have hji : (j' : Int) - 1 = (i : Int) := by omega
                  have hjpos : decide (0 < j') = true := by simp; omega
                  have HJ := Lib.hid hj'
                  rw [← hj']
                  clear hj'
                  go_wp2_with fail
                  go_quiet (fail)
                  go_wp2_with fail
                  go_roundw
                  case rel => exact ⟨j' + 1, by go_num, by omega, HW5.out.drewN nq, HS5.out.keep (fun _ _ => rfl)⟩
                  case measure => simp [intOf]; omega
              · by_cases hw0 : s.wait = 0
                · have hall := HOA.out hw0
                  rw [hw0] at hc4
                  go_wp2_with fail
                  refine (ws_len HW5.out).mono ?_
                  rw [HL5.out, ← hall]
                  rintro e w6 ⟨rfl, rfl⟩
                  go_wp2_with fail
                  refine (ws_len HW5.out).mono ?_
                  rw [HL5.out]
                  rintro e w5 ⟨rfl, rfl⟩
                  go_wp2_with fail
                  go_roundw
                  case rel => exact ⟨k + 1, last, ack, now1, _, rfl, rfl, rfl, by go_num, by omega, by omega, by omega, by omega, hal, by rw [HL5.out, HM.out], HG1.out.marked _, HW5.out⟩
                  case measure => simp [intOf]; omega
                · have hw0b : ((s.wait : Int) == 0) = false := by simp; omega
                  go_wp2_with fail
                  refine (ws_len HW5.out).mono ?_
                  rw [HL5.out]
                  rintro e w5 ⟨rfl, rfl⟩
                  go_wp2_with fail
                  go_roundw
                  case rel => exact ⟨k + 1, last, ack, now1, _, rfl, rfl, rfl, by go_num, by omega, by omega, by omega, by omega, hal, by rw [HL5.out, HM.out], HG1.out.marked _, HW5.out⟩
                  case measure => simp [intOf]; omega
          · have hk3b : (s.kind == 3) = false := by simpa using hk3
            go_wp2_with fail
            refine (ws_len HW.out).mono ?_
            rw [HL.out]
            rintro e w5 ⟨rfl, rfl⟩
            go_wp2_with fail
            go_roundw
            case rel => exact ⟨k + 1, last, ack, now1, _, rfl, rfl, rfl, by go_num, by omega, by omega, by omega, by omega, hal, by rw [HL.out, HM.out], HG1.out, HW.out⟩
            case measure => simp [intOf]; omega
    · rcases (by omega : (¬ k < n) ∨ (k < n ∧ k = 100)) with hge | ⟨hlt', h100⟩
      all_goals
        clear hcont
        try subst h100
        have HB := Lib.hid HW.out.below
        go_wp2_with fail
        go_ret
        exact ⟨rfl, HB.out⟩
end Go.Proofs.Ytlpjglcnbjbpcaa.Win
