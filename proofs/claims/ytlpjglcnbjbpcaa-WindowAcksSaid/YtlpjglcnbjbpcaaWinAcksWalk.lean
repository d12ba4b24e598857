/- The walk of WindowAcks. -/
import Derived.Test.YtlpjglcnbjbpcaaWinLaw
namespace Go.Proofs.Ytlpjglcnbjbpcaa.Win
open Go Go.RowKit Mem Conv

def AcksRel1 (w0 : World) (g S : Nat) (v7 : Value) (w : World) : Prop :=
  ∃ (k : Nat) (es : List Ent), v7 = .int .i64 (k : Int) ∧ k ≤ S ∧ Filled es k ∧ WS w0 w g S k es (fun _ => False)
def AcksRel2 (w0 : World) (g S n : Nat) (es : List Ent) (v10 v11 : Value) (w : World) : Prop :=
  ∃ k d : Nat, v10 = .int .i64 (d : Int) ∧ v11 = .int .i64 (k : Int) ∧ k ≤ n ∧ k ≤ 30 ∧ d ≤ S ∧ WS w0 w g S S (es.drop d) (fun _ => False)
def AcksRel3 (w5 : World) (m : Nat) (v14 : Value) (w : World) : Prop := ∃ k : Nat, v14 = .int .i64 (k : Int) ∧ k ≤ m ∧ w = w5
def AcksRel4 (w0 : World) (g S d : Nat) (v15 : Value) (w : World) : Prop :=
  ∃ (k : Nat) (es : List Ent), v15 = .int .i64 (k : Int) ∧ k ≤ d ∧ es.length = S - d + k ∧ WS w0 w g S (S + k) es (fun _ => False)

set_option maxRecDepth 100000 in
set_option maxHeartbeats 3200000 in
theorem acks_walk (size : Int) (A : Option Addr) (n c : Nat) (l : List Nat) (w : World) (hr : Row w w.heap.size 1 A n (byts l)) (hl : l.length = n) (hb : ∀ u ∈ l, u < 256) :
    Calls Try.prog 8 #[.int .i64 size, .slice A n c] w fun e w' => e = .returned (.bool true) ∧ Below w.heap.size w w' := by
  obtain ⟨M, hM1, hand⟩ := Mask.and_mask16 size
  obtain ⟨N, hN⟩ : ∃ N, N = M % 50 := ⟨_, rfl⟩
  have hrem : (M : Int) % 50 = (N : Int) := by omega
  obtain ⟨S, hS⟩ : ∃ S, S = 1 + N := ⟨_, rfl⟩
  have hS1 : 1 ≤ S := by omega
  have hS50 : S ≤ 50 := by omega
  have hSi : 1 + (N : Int) = (S : Int) := by omega
  clear hN hS
  go_enter Try.func8, Try.ntmps8
  go_wp2_with fail
  refine (shown_any w).mono ?_
  rintro e w1 ⟨rfl, b1⟩
  have hs1 := b1.size
  go_wp2_with fail
  refine (ws_new w w1 (fun _ => False) S (by omega) b1 (fun _ h => h.elim)).mono ?_
  rintro e w2 ⟨g, rfl, W2, b2⟩
  rw [show (max (S : Int) 1).toNat = S by omega] at W2
  have hW2 := Lib.hid W2
  clear W2
  go_wp2_with fail
  go_loopw [7] (AcksRel1 w g S) (fun i _ => S - (intOf i).toNat)
  case atStart => exact ⟨0, [], rfl, by omega, Filled.nil, hW2.out⟩
  case round =>
    clear hW2
    obtain ⟨k, es, rfl, hkS, hf, hW⟩ := hrel
    have HW := Lib.hid hW; have HF := Lib.hid hf; have HL := Lib.hid hW.lt.2
    clear hW hf
    by_cases hlt : k < S
    · have hk256 : IntKind.u8.wrap (k : Int) = (k : Int) := IntWalk.u8_in _ (by omega)
      go_wp2_with fail
      have b3 : Below wr.heap.size wr (wr.alloc (.cells #[.int .u8 (k : Int)] 5)) := (Below.refl _ _).alloc (Nat.le_refl _) _
      refine (ws_push_room (HW.out.step b3) (some ⟨wr.heap.size, 0, none⟩) 1 1 [k] (row_new wr 5 [k] (0, 0) _ _ rfl (by simp)) rfl (by simp; omega) (fun h => by cases h) (by omega) (fun b o h => by cases h; have := HL.out; omega) (by rw [HF.out.1]; exact hlt) (by omega)).mono ?_
      rintro e w3 ⟨en, rfl, hx, htold, htm, W3, k3⟩
      have HF3 := Lib.hid (HF.out.push en hx htold); have HW3 := Lib.hid W3
      clear hx htold htm W3 k3 b3
      go_wp2_with fail
      go_roundw
      case rel => exact ⟨k + 1, _, by go_num, by omega, HF3.out, HW3.out⟩
      case measure => simp [intOf]; omega
    · obtain rfl : k = S := by omega
      go_wp2_with fail
      go_loopw [10, 11] (AcksRel2 w g k n es) (fun _ i _ => n - (intOf i).toNat)
      case atStart => exact ⟨0, 0, rfl, rfl, by omega, by omega, by omega, HW.out⟩
      case round =>
        clear HW HL
        obtain ⟨i, d, rfl, rfl, hin, hi30, hdk, hW⟩ := hrel
        have HW := Lib.hid hW
        have hlen : (es.drop d).length = k - d := by rw [List.length_drop, HF.out.1]
        have HLN := Lib.hid hlen
        clear hW hlen
        obtain ⟨q, hq⟩ : ∃ q, q = k - d := ⟨_, rfl⟩
        have hqi : (k : Int) - (d : Int) = (q : Int) := by omega
        by_cases hcont : i < n ∧ i < 30
        · obtain ⟨hltn, hlt30⟩ := hcont
          obtain ⟨b, o, u, hA, hbb, hu, hcell⟩ := hr.at_ hltn
          have hux := byts_at hu (by omega)
          subst hA hux
          obtain ⟨x, hxx⟩ : ∃ x, x = l.getD i 0 := ⟨_, rfl⟩
          rw [← hxx] at hcell
          have hx256 : x < 256 := by rw [hxx]; exact byte_lt hb i
          have hc2 : wr.cell? ⟨b, o + i, none⟩ = some (.int .u8 (x : Int)) := (HW.out.below.cell (p := ⟨b, o + i, none⟩) hbb).trans hcell
          have hx64 : IntKind.i64.wrap (x : Int) = (x : Int) := IntWalk.i64_in _ (by omega)
          have hx32 : IntKind.u32.wrap (x : Int) = (x : Int) := IntWalk.u32_in _ (by omega)
          obtain ⟨m, hm⟩ : ∃ m, m = min x k := ⟨_, rfl⟩
          have hmi : min (x : Int) (k : Int) = (m : Int) := by omega
          obtain ⟨d2, hd2⟩ : ∃ d2, d2 = max d m := ⟨_, rfl⟩
          have hd2i : max (d : Int) (m : Int) = (d2 : Int) := by omega
          obtain ⟨r, hrr⟩ : ∃ r, r = d2 - d := ⟨_, rfl⟩
          have hri : (d2 : Int) - (d : Int) = (r : Int) := by omega
          obtain ⟨q2, hq2⟩ : ∃ q2, q2 = k - d2 := ⟨_, rfl⟩
          have hq2i : (k : Int) - (d2 : Int) = (q2 : Int) := by omega
          have hack : ackN k (k - d) x = r := by rw [ackN_done _ _ _ hdk, hrr, hd2, hm]
          have hd2k : d2 ≤ k := by omega
          have hrq : d + r = d2 := by omega
          have HR := Lib.hid hr; have HACK := Lib.hid hack; have HQ := Lib.hid hrq; have HQ2 := Lib.hid hq2
          clear hu hcell hxx hm hd2 hrr hr hack hrq hq2 hq
          go_wp2_with fail
          refine (ws_ack HW.out x (by omega)).mono ?_
          rw [HLN.out, HACK.out, List.drop_drop, HQ.out]
          rintro e w4 ⟨rfl, W4, -⟩
          have HW4 := Lib.hid W4
          clear W4
          go_wp2_with fail
          refine (ws_len HW4.out).mono ?_
          rw [List.length_drop, HF.out.1, ← HQ2.out]
          rintro e w5 ⟨rfl, rfl⟩
          go_wp2_with fail
          go_roundw
          case rel => exact ⟨i + 1, d2, rfl, by go_num, by omega, by omega, hd2k, HW4.out⟩
          case measure => simp [intOf]; omega
        · have fin : Calls Try.prog 17 #[.pointer (some ⟨g, 0, none⟩), .int .u64 0, .int .u64 0] wr fun e w' => ∃ (outs : List Out) (Ar : Option Addr) (cr : Nat) (Fr : Option Nat) (es' : List Ent),
              e = .returned (.slice Ar outs.length cr) ∧ es'.length = q ∧ WS w w' g k k es' (fun _ => False) ∧ Sents w' Ar cr outs Fr ∧ outs.length = q ∧ ∀ j (h : j < outs.length), outs[j].seq = d + j + 1 ∧ outs[j].x = [d + j] := by
            refine (ws_due HW.out 0 0 (by decide) (by decide) (fun e he => ?_)).mono ?_
            · obtain ⟨j, hj, rfl⟩ := List.getElem_of_mem (List.mem_of_mem_drop he)
              rw [(HF.out.2 j hj).1]; simp
            · rintro e w' ⟨outs, Ar, cr, Fr, rfl, W', S', hmap, -, -, -⟩
              have hall : ∀ e ∈ es.drop d, again 0 0 e = true := fun e he => by
                obtain ⟨j, hj, rfl⟩ := List.getElem_of_mem (List.mem_of_mem_drop he)
                unfold again; rw [(HF.out.2 j hj).2]; rfl
              obtain ⟨h1, h2⟩ := dueTo_all 0 0 (k - (es.drop d).length + 1) (es.drop d) hall _ (Nat.le_refl _)
              have hol : outs.length = q := by rw [outs_len hmap, h1, HLN.out, hq]
              refine ⟨outs, Ar, cr, Fr, _, rfl, by rw [List.length_map, HLN.out, hq], W'.weaken (fun k h => h.elim), S', hol, fun j hj => ?_⟩
              have hjl : j < (es.drop d).length := by rw [HLN.out]; omega
              obtain ⟨_, h3, h4⟩ := outs_at hmap (h2 j (by omega) hjl)
              rw [h3, h4]
              refine ⟨by rw [HLN.out]; omega, ?_⟩
              rw [List.getElem_drop]
              exact (HF.out.2 _ _).1
          have FIN := Lib.hid fin
          have HQQ := Lib.hid hq
          clear fin hq
          rcases (by omega : (¬ i < n) ∨ (i < n ∧ i = 30)) with hge | ⟨hlt', h30⟩
          all_goals
            clear hcont
            try subst h30
            go_wp2_with fail
            refine FIN.out.mono ?_
            rintro e w5 ⟨outs, Ar, cr, Fr, es5, rfl, h5, W5, S5, hol, hat⟩
            have HW5 := Lib.hid W5; have HS5 := Lib.hid S5; have HAT := Lib.hid hat
            have hcmp : (((outs.length : Nat) : Int) == (q : Int)) = true := by rw [hol]; simp
            have hol50 : outs.length ≤ 50 := by rw [hol, HQQ.out]; omega
            have HOL := Lib.hid hol; have H5 := Lib.hid h5
            clear W5 S5 hat hol h5
            go_wp2_with fail
            go_loopw [14] (AcksRel3 w5 outs.length) (fun i _ => outs.length - (intOf i).toNat)
            case atStart => exact ⟨0, rfl, by omega, rfl⟩
            case round =>
              obtain ⟨j, rfl, hj, rfl⟩ := hrel
              by_cases hlt : j < outs.length
              · obtain ⟨b2, o2, rfl, hb2, hc0, hc1⟩ := HS5.out.cells j hlt
                obtain ⟨hq1, hq2⟩ := HAT.out j hlt
                obtain ⟨b3, o3, hA3, -, -, hc3, -⟩ := (HS5.out.xs _ (List.getElem_mem hlt)).1.form (by rw [hq2]; simp)
                obtain ⟨dj, hdj⟩ : ∃ dj, dj = d + j := ⟨_, rfl⟩
                obtain ⟨s, hs⟩ : ∃ s, s = dj + 1 := ⟨_, rfl⟩
                have hdji : (d : Int) + (j : Int) = (dj : Int) := by omega
                have hsi : (dj : Int) + 1 = (s : Int) := by omega
                have hbd : dj ≤ 100 := by omega
                have hbs : s ≤ 101 := by omega
                have hw1 : IntKind.i64.wrap (s : Int) = (s : Int) := IntWalk.i64_in _ (by omega)
                have hw2 : IntKind.i64.wrap (dj : Int) = (dj : Int) := IntWalk.i64_in _ (by omega)
                rw [hq1, ← hdj, ← hs] at hc0
                rw [hq2] at hc1 hc3
                rw [hA3] at hc1
                have hc4 := hc3 0 (.int .u8 (dj : Int)) (by simp [byts, hdj])
                rw [Nat.add_zero] at hc4
                simp only [List.length_singleton] at hc1
                clear hq1 hq2 hc3 hA3 hdj hs
                go_wp2_with fail
                go_roundw
                case rel => exact ⟨j + 1, by go_num, by omega, rfl⟩
                case measure => simp [intOf]; omega
              · go_wp2_with fail
                go_loopw [15] (AcksRel4 w g k d) (fun i _ => d - (intOf i).toNat)
                case atStart => exact ⟨0, es5, rfl, by omega, by rw [H5.out, HQQ.out]; rfl, HW5.out⟩
                case round =>
                  clear HW5 HS5 HAT
                  obtain ⟨t, es6, rfl, htd, hl6, hW6⟩ := hrel
                  have HW6 := Lib.hid hW6; have HL6 := Lib.hid hl6
                  clear hW6 hl6
                  by_cases hlt : t < d
                  · obtain ⟨p, hp⟩ : ∃ p, p = k + t := ⟨_, rfl⟩
                    obtain ⟨p1, hp1⟩ : ∃ p1, p1 = p + 1 := ⟨_, rfl⟩
                    have hpi : (k : Int) + (t : Int) = (p : Int) := by omega
                    have hp1i : (p : Int) + 1 = (p1 : Int) := by omega
                    have hpb : p ≤ 100 := by omega
                    have hp1b : p1 ≤ 101 := by omega
                    have hw1 : IntKind.i64.wrap (p1 : Int) = (p1 : Int) := IntWalk.i64_in _ (by omega)
                    have hw2 : IntKind.i64.wrap (p : Int) = (p : Int) := IntWalk.i64_in _ (by omega)
                    have hWp := HW6.out
                    rw [← hp] at hWp
                    have HWP := Lib.hid hWp; have HP := Lib.hid hp; have HP1 := Lib.hid hp1
                    clear hWp hp hp1
                    go_wp2_with fail
                    refine (ws_push_room HWP.out none 0 0 [] Row.none_ rfl (by decide) (fun _ => rfl) (by omega) (fun b o h => by cases h) (by rw [HL6.out]; omega) (by omega)).mono ?_
                    rw [← HP1.out]
                    rintro e w9 ⟨en', rfl, -, -, -, W9, -⟩
                    have HW9 := Lib.hid W9
                    clear W9
                    go_wp2_with fail
                    go_roundw
                    case rel => exact ⟨t + 1, es6 ++ [en'], by go_num, by omega, by rw [List.length_append, HL6.out]; simp; omega, by have := HW9.out; rw [HP1.out, HP.out] at this; exact this⟩
                    case measure => simp [intOf]; omega
                  · go_wp2_with fail
                    refine (ws_push_full HW6.out _ (.inl (by rw [HL6.out]; omega))).mono ?_
                    rintro e w10 ⟨rfl, W10, -⟩
                    have HB10 := Lib.hid W10.below
                    clear W10
                    go_wp2_with fail
                    go_ret
                    exact ⟨rfl, HB10.out⟩
end Go.Proofs.Ytlpjglcnbjbpcaa.Win
