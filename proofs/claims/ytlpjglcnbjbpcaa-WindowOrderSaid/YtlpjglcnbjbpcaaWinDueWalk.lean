/- The walk of Window.Due, its loop. -/
import Derived.Test.YtlpjglcnbjbpcaaWinDue
namespace Go.Proofs.Ytlpjglcnbjbpcaa.Win
open Go Go.RowKit Mem

set_option maxHeartbeats 3200000 in
theorem due_any (w : World) {g size last c : Nat} {es : List Ent} {A : Option Addr} {Fl : Option Nat} (h : Win w g size last es A c Fl) (now wait : Nat) (hnow : now < 18446744073709551616) (hwait : wait < 18446744073709551616) (hx : ∀ e ∈ es, e.x.length ≤ 70368744177664) :
    Calls Try.prog 17 #[.pointer (some ⟨g, 0, none⟩), .int .u64 (now : Int), .int .u64 (wait : Int)] w fun e w' => ∃ (outs : List Out) (Ar : Option Addr) (cr : Nat) (Fr : Option Nat),
      e = .returned (.slice Ar outs.length cr) ∧ Win w' g size last (es.map (mark now wait)) A c Fl ∧ Sents w' Ar cr outs Fr ∧ outs.map (fun o => (o.seq, o.x)) = dueTo now wait (last - es.length + 1) es es.length ∧
      (∀ b, RFoot Fr outs b → w.heap.size ≤ b) ∧ Only (fun b => Fl = some b) w w' := by
  obtain ⟨i0, hi, hz0, hz1, hz2⟩ := info_parts inf_sent
  have hc1 := h.blk.cell 1
  simp only [List.getElem?_toArray, List.getElem?_cons_succ, List.getElem?_cons_zero] at hc1
  have hle := h.le
  have hhi := h.hi
  have HFL := Lib.hid (fun (b : Nat) (hb : Fl = some b) => h.sl.lt hb)
  have HD := Lib.hid (show DueRel w g size last c es A Fl now wait (.slice none 0 0) (.int .i64 0) w from
    ⟨0, [], none, 0, none, Nat.zero_le _, rfl, rfl, by rw [esAt_zero]; exact h, ⟨Sl.nil _ _ _, by simp⟩, rfl, (by rintro b (h | ⟨o, ho, _⟩); cases h; simp at ho), Only.refl _ _⟩)
  clear h
  go_enter Try.func17, Try.ntmps17
  go_wp2
  go_loopw [6, 14] (DueRel w g size last c es A Fl now wait) (fun _ i _ => es.length - (intOf i).toNat)
  case atStart => exact HD.out
  case round =>
    clear HD hc1
    obtain ⟨k, outs, Ar, cr, Fr, hk, rfl, rfl, hW, hS, hmap, hfr, hO⟩ := hrel
    have hlen := esAt_length now wait es k hk
    by_cases hlt : k < es.length
    · have hcw := hW.blk.cell 1
      simp only [List.getElem?_toArray, List.getElem?_cons_succ, List.getElem?_cons_zero, hlen] at hcw
      obtain ⟨b, o, hA, hF, hblt, hcell, hfro⟩ := hW.sl.form (by omega)
      obtain ⟨en, hen⟩ : ∃ en, en = es[k] := ⟨_, rfl⟩
      have hek : (esAt now wait es k)[k]'(by omega) = en := by
        have := esAt_get now wait es k hlt
        rw [List.getElem?_eq_getElem (by omega)] at this
        rw [hen]; exact Option.some.inj this
      have hx0 : wr.cell? ⟨b, o + k * 3, none⟩ = some (.slice en.A en.x.length en.c) := by
        have := hcell (k * 3 + 0) _ (by rw [thCells_at _ k 0 (by omega) (by omega), hek]; rfl)
        exact this
      have hx1 : wr.cell? ⟨b, o + k * 3 + 1, none⟩ = some (.bool en.told) := by
        have := hcell (k * 3 + 1) _ (by rw [thCells_at _ k 1 (by omega) (by omega), hek]; rfl)
        exact this
      have hx2 : wr.cell? ⟨b, o + k * 3 + 2, none⟩ = some (.int .u64 (en.tm : Int)) := by
        have := hcell (k * 3 + 2) _ (by rw [thCells_at _ k 2 (by omega) (by omega), hek]; rfl)
        exact this
      have hf1 := hfro (o + k * 3 + 1)
      have hf2 := hfro (o + k * 3 + 2)
      subst hA
      have hmem : Own8 wr en.A en.c en.F en.x := by rw [← hek]; exact hW.xs _ (List.getElem_mem (by omega))
      have hxl : en.x.length ≤ 70368744177664 := by rw [hen]; exact hx _ (List.getElem_mem hlt)
      have HMEM := Lib.hid hmem
      obtain ⟨f0, hf0⟩ : ∃ f0, f0 = last - es.length + 1 := ⟨_, rfl⟩
      obtain ⟨sq, hsq⟩ : ∃ sq, sq = f0 + k := ⟨_, rfl⟩
      have hsqi : (f0 : Int) + (k : Int) = (sq : Int) := by omega
      have hsq2 : sq ≤ 4294967295 := by omega
      have hsq3 : IntKind.i64.wrap (sq : Int) = (sq : Int) := IntWalk.i64_in _ (by omega)
      have hsq4 : IntKind.u32.wrap (sq : Int) = (sq : Int) := IntWalk.u32_in _ (by omega)
      have HF0 := Lib.hid hf0; have HSQ := Lib.hid hsq
      have houts : outs.length ≤ es.length := by
        have := congrArg List.length hmap
        rw [List.length_map] at this
        rw [this]; exact Nat.le_trans (dueTo_length now wait _ es k) hk
      clear hmem hf0 hsq
      have HW := Lib.hid hW; have HS := Lib.hid hS; have HM := Lib.hid hmap; have HFR := Lib.hid hfr; have HO := Lib.hid hO; have HE := Lib.hid hen; have HF := Lib.hid hF; have HLN := Lib.hid hlen
      clear hW hS hmap hfr hO hcell hfro hen hF hlen hek
      by_cases hskip : en.told = true ∧ (now < en.tm ∨ now - en.tm < wait)
      · obtain ⟨ht, hs⟩ := hskip
        have hag : again now wait es[k] = false := by
          rw [← HE.out]; unfold again; rw [ht]; simp
          rcases hs with hs | hs <;> omega
        have HN : DueRel w g size last c es (some ⟨b, o, none⟩) Fl now wait (.slice Ar outs.length cr) (.int .i64 ((k : Int) + 1)) wr :=
          ⟨k + 1, outs, Ar, cr, Fr, by omega, by go_num, rfl, by rw [esAt_no now wait es k hlt hag]; exact HW.out, HS.out, by rw [dueTo_no hlt hag]; exact HM.out, HFR.out, HO.out⟩
        have HNN := Lib.hid HN
        clear HN hag
        rw [ht] at hx1
        by_cases hlow : now < en.tm
        · have hd : decide (now < en.tm) = true := by simp; exact hlow
          clear hs ht
          go_wp2
          go_roundw
          case rel => exact HNN.out
          case measure => simp [intOf]; omega
        · have hd : decide (now < en.tm) = false := by simp; omega
          obtain ⟨d, hdd⟩ : ∃ d, d = now - en.tm := ⟨_, rfl⟩
          have hsub : (now : Int) - (en.tm : Int) = (d : Int) := by omega
          have hd2 : decide (d < wait) = true := by simp; omega
          clear hs ht hdd
          go_wp2
          go_roundw
          case rel => exact HNN.out
          case measure => simp [intOf]; omega
      · have hag : again now wait es[k] = true := by
          rw [← HE.out]; unfold again
          cases ht : en.told
          · rfl
          · simp only [ht, true_and] at hskip; simp; omega
        have hmk := win_mark HW.out k (by rw [HLN.out]; exact hlt) now hnow rfl HF.out
        have hset : (esAt now wait es k).set k { (esAt now wait es k)[k]'(by rw [HLN.out]; exact hlt) with told := true, tm := now } = esAt now wait es (k + 1) := by
          rw [esAt_succ now wait es k hlt]
          have h1 := esAt_get now wait es k hlt
          rw [List.getElem?_eq_getElem (by rw [HLN.out]; exact hlt)] at h1
          rw [Option.some.inj h1]
          unfold mark; rw [hag]; rfl
        rw [hset] at hmk
        have HMK := Lib.hid hmk; have HAG := Lib.hid hag
        clear hmk hset hag
        rcases (by
          by_cases ht : en.told = true
          · right
            refine ⟨ht, ?_, ?_⟩
            · rcases Nat.lt_or_ge now en.tm with h | h
              · exact (hskip ⟨ht, .inl h⟩).elim
              · exact h
            · rcases Nat.lt_or_ge (now - en.tm) wait with h | h
              · exact (hskip ⟨ht, .inr h⟩).elim
              · exact h
          · left; simpa using ht : en.told = false ∨ (en.told = true ∧ en.tm ≤ now ∧ wait ≤ now - en.tm)) with ht | ⟨ht, h1, h2⟩
        · clear hskip
          rw [ht] at hx1
          clear ht
          go_wp2
          obtain ⟨w6, hw6⟩ : ∃ w6, w6 = (wr.setCell ⟨b, o + k * 3 + 1, none⟩ (.bool true)).setCell ⟨b, o + k * 3 + 2, none⟩ (.int .u64 (now : Int)) := ⟨_, rfl⟩
          rw [← hw6]
          have W6 : Win w6 g size last (esAt now wait es (k + 1)) (some ⟨b, o, none⟩) c Fl := by rw [hw6]; exact HMK.out.1
          have O6 : Only (fun b => Fl = some b) wr w6 := by rw [hw6]; exact HMK.out.2
          have O06 := HO.out.trans' O6
          have S6 : Sents w6 Ar cr outs Fr := HS.out.only O6 (fun b hb hn => by have h1 := HFR.out b hb; have h2 := HFL.out b hn; omega)
          have RX : Row w6 w6.heap.size 1 en.A en.x.length (byts en.x) := ((HMEM.out.1).only O6 (fun b hb hn => sl_ne HW.out.sl HMEM.out.1 (by decide) hn hb)).row
          have hy0 : w6.cell? ⟨b, o + k * 3, none⟩ = some (.slice en.A en.x.length en.c) := by
            rw [hw6, World.cell?_setCell_other _ _ _ _ (by simp), World.cell?_setCell_other _ _ _ _ (by simp)]; exact hx0
          have hb8 := HMEM.out.2
          have hnc := HMEM.out.1.nil_cap
          have hlen6 : (esAt now wait es (k + 1)).length = es.length := esAt_length now wait es (k + 1) hlt
          have hfir : ∀ q, Calls Try.prog 26 #[.pointer (some ⟨g, 0, none⟩)] (w6.drewN q) fun e w' => e = .returned (.int .i64 (f0 : Int)) ∧ ∃ n, w' = (w6.drewN q).drewN n := fun q => by
            have := first_any (w6.drewN q) (W6.keep (w' := w6.drewN q) (fun _ _ => rfl))
            rw [hlen6, ← HF0.out] at this
            exact this
          have HFI := Lib.hid hfir
          have HW6 := Lib.hid W6; have HS6 := Lib.hid S6; have HO6 := Lib.hid O06; have HRX := Lib.hid RX; have HNC := Lib.hid hnc; have HB8 := Lib.hid hb8
          have hblt6 : b < w6.heap.size := W6.sl.lt HF.out
          clear W6 O6 O06 S6 RX hfir hw6 hx0 hx1 hx2 hf1 hf2 hnc hb8 hlen6
          go_region_law
            (first
              | (go_simp; go_at_call 26; refine (HFI.out 1).mono ?_; rintro e wq ⟨rfl, nq, rfl⟩)
              | (go_simp; go_at_call 25
                 refine (clone_any en.A en.x.length en.c w6.heap.size en.x _ (by exact HRX.out) rfl HB8.out HNC.out hxl (by simp)).mono ?_
                 rintro e w2 ⟨A2, c2, F2, rfl, hown2, hbel, hfr2⟩
                 have hbel2 : Below w6.heap.size w6 w2 := ⟨hbel.os, hbel.tape, hbel.output, hbel.size, hbel.block⟩
                 have hfr2' : ∀ b, F2 = some b → w6.heap.size ≤ b := hfr2
                 have hs2 : w6.heap.size ≤ w2.heap.size := hbel2.size
                 have hy2 : w2.cell? ⟨b, o + k * 3, none⟩ = some (.slice en.A en.x.length en.c) := (hbel2.cell (p := ⟨b, o + k * 3, none⟩) hblt6).trans hy0
                 clear hbel hfr2)
              | (refine step_append_sl _ (by rfl) _ _ _ _ (by rfl) 40 i0 _ 2 32 Try.underlying37 hi hz0 hz1 hz2 rfl Ar outs.length cr (outCells outs) Fr (by rfl) ((HS6.out.sl.below hbel2 (fun b hb => HS6.out.sl.lt hb)).alloc _) _ 1 _ (by rfl) (src_new w2 (m := 1) (c := 1) #[.int .u32 (sq : Int), .slice A2 en.x.length c2] rfl Try.underlying37 rfl (by simp [Value.oneCell'])) (by unfold maxLen; omega) (by omega) ?_
                 intro A4 c4 w4 F4 hs4 ho4 hF4))
          all_goals
            have HR := due_close hlt HW6.out HS6.out HM.out HAG.out HFR.out HO6.out HFL.out (by rw [HE.out]) (by rw [HSQ.out, HF0.out]) hown2 hbel2 hfr2' hs4 ho4 hF4
            have HRR := Lib.hid HR
            clear HR hs4 ho4 hF4 hown2 hbel2 hfr2' hy2 hy0
            go_wp2
            go_roundw
            case rel => exact HRR.out
            case measure => simp [intOf]; omega
        · clear hskip
          have hd : decide (now < en.tm) = false := by simp; omega
          obtain ⟨d, hdd⟩ : ∃ d, d = now - en.tm := ⟨_, rfl⟩
          have hsub : (now : Int) - (en.tm : Int) = (d : Int) := by omega
          have hd2 : decide (d < wait) = false := by simp; omega
          rw [ht] at hx1
          clear ht h1 h2 hdd
          go_wp2
          obtain ⟨w6, hw6⟩ : ∃ w6, w6 = (wr.setCell ⟨b, o + k * 3 + 1, none⟩ (.bool true)).setCell ⟨b, o + k * 3 + 2, none⟩ (.int .u64 (now : Int)) := ⟨_, rfl⟩
          rw [← hw6]
          have W6 : Win w6 g size last (esAt now wait es (k + 1)) (some ⟨b, o, none⟩) c Fl := by rw [hw6]; exact HMK.out.1
          have O6 : Only (fun b => Fl = some b) wr w6 := by rw [hw6]; exact HMK.out.2
          have O06 := HO.out.trans' O6
          have S6 : Sents w6 Ar cr outs Fr := HS.out.only O6 (fun b hb hn => by have h1 := HFR.out b hb; have h2 := HFL.out b hn; omega)
          have RX : Row w6 w6.heap.size 1 en.A en.x.length (byts en.x) := ((HMEM.out.1).only O6 (fun b hb hn => sl_ne HW.out.sl HMEM.out.1 (by decide) hn hb)).row
          have hy0 : w6.cell? ⟨b, o + k * 3, none⟩ = some (.slice en.A en.x.length en.c) := by
            rw [hw6, World.cell?_setCell_other _ _ _ _ (by simp), World.cell?_setCell_other _ _ _ _ (by simp)]; exact hx0
          have hb8 := HMEM.out.2
          have hnc := HMEM.out.1.nil_cap
          have hlen6 : (esAt now wait es (k + 1)).length = es.length := esAt_length now wait es (k + 1) hlt
          have hfir : ∀ q, Calls Try.prog 26 #[.pointer (some ⟨g, 0, none⟩)] (w6.drewN q) fun e w' => e = .returned (.int .i64 (f0 : Int)) ∧ ∃ n, w' = (w6.drewN q).drewN n := fun q => by
            have := first_any (w6.drewN q) (W6.keep (w' := w6.drewN q) (fun _ _ => rfl))
            rw [hlen6, ← HF0.out] at this
            exact this
          have HFI := Lib.hid hfir
          have HW6 := Lib.hid W6; have HS6 := Lib.hid S6; have HO6 := Lib.hid O06; have HRX := Lib.hid RX; have HNC := Lib.hid hnc; have HB8 := Lib.hid hb8
          have hblt6 : b < w6.heap.size := W6.sl.lt HF.out
          clear W6 O6 O06 S6 RX hfir hw6 hx0 hx1 hx2 hf1 hf2 hnc hb8 hlen6
          go_region_law
            (first
              | (go_simp; go_at_call 26; refine (HFI.out 1).mono ?_; rintro e wq ⟨rfl, nq, rfl⟩)
              | (go_simp; go_at_call 25
                 refine (clone_any en.A en.x.length en.c w6.heap.size en.x _ (by exact HRX.out) rfl HB8.out HNC.out hxl (by simp)).mono ?_
                 rintro e w2 ⟨A2, c2, F2, rfl, hown2, hbel, hfr2⟩
                 have hbel2 : Below w6.heap.size w6 w2 := ⟨hbel.os, hbel.tape, hbel.output, hbel.size, hbel.block⟩
                 have hfr2' : ∀ b, F2 = some b → w6.heap.size ≤ b := hfr2
                 have hs2 : w6.heap.size ≤ w2.heap.size := hbel2.size
                 have hy2 : w2.cell? ⟨b, o + k * 3, none⟩ = some (.slice en.A en.x.length en.c) := (hbel2.cell (p := ⟨b, o + k * 3, none⟩) hblt6).trans hy0
                 clear hbel hfr2)
              | (refine step_append_sl _ (by rfl) _ _ _ _ (by rfl) 40 i0 _ 2 32 Try.underlying37 hi hz0 hz1 hz2 rfl Ar outs.length cr (outCells outs) Fr (by rfl) ((HS6.out.sl.below hbel2 (fun b hb => HS6.out.sl.lt hb)).alloc _) _ 1 _ (by rfl) (src_new w2 (m := 1) (c := 1) #[.int .u32 (sq : Int), .slice A2 en.x.length c2] rfl Try.underlying37 rfl (by simp [Value.oneCell'])) (by unfold maxLen; omega) (by omega) ?_
                 intro A4 c4 w4 F4 hs4 ho4 hF4))
          all_goals
            have HR := due_close hlt HW6.out HS6.out HM.out HAG.out HFR.out HO6.out HFL.out (by rw [HE.out]) (by rw [HSQ.out, HF0.out]) hown2 hbel2 hfr2' hs4 ho4 hF4
            have HRR := Lib.hid HR
            clear HR hs4 ho4 hF4 hown2 hbel2 hfr2' hy2 hy0
            go_wp2
            go_roundw
            case rel => exact HRR.out
            case measure => simp [intOf]; omega
    · obtain rfl : k = es.length := by omega
      have HE : DueRel w g size last c es A Fl now wait (.slice Ar outs.length cr) (.int .i64 (es.length : Int)) wr := ⟨es.length, outs, Ar, cr, Fr, Nat.le_refl _, rfl, rfl, hW, hS, hmap, hfr, hO⟩
      have HEE := Lib.hid HE
      rw [esAt_all] at hW
      have HW := Lib.hid hW; have HS := Lib.hid hS; have HM := Lib.hid hmap; have HFR := Lib.hid hfr; have HO := Lib.hid hO
      clear hW hS hmap hfr hO HE HEE hlen
      go_wp2
      go_ret
      exact ⟨outs, Ar, cr, Fr, rfl, HW.out, HS.out, HM.out, HFR.out, HO.out⟩
end Go.Proofs.Ytlpjglcnbjbpcaa.Win
