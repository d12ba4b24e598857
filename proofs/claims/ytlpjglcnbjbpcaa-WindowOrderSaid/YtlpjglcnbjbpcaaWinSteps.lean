/- The steps that a law is handed, as they lie in memory. -/
import Derived.Test.YtlpjglcnbjbpcaaOpen
import Derived.Test.YtlpjglcnbjbpcaaWinLaw
namespace Go.Proofs.Ytlpjglcnbjbpcaa.Win
open Go Go.ChangeShapes Go.WideShapes Go.RowKit Mem Conv Row

structure StepV where
  kind : Int
  x : List Nat
  seq : Nat
  now : Nat
  wait : Nat
def StepAt (W : World) (b o : Nat) (s : StepV) : Prop :=
  W.cell? ⟨b, o, none⟩ = some (.int .i64 s.kind) ∧ (∃ u, W.cell? ⟨b, o + 1, none⟩ = some u ∧ BytesAt W u s.x) ∧ W.cell? ⟨b, o + 2, none⟩ = some (.int .u32 (s.seq : Int)) ∧
  W.cell? ⟨b, o + 3, none⟩ = some (.int .u64 (s.now : Int)) ∧ W.cell? ⟨b, o + 4, none⟩ = some (.int .u64 (s.wait : Int)) ∧ s.seq ≤ 4294967295 ∧ s.now ≤ 18446744073709551615 ∧ s.wait ≤ 18446744073709551615
def Steps (W : World) (A : Option Addr) (n : Nat) (l : List StepV) : Prop :=
  l.length = n ∧ (0 < n → ∃ b o, A = some ⟨b, o, none⟩ ∧ b < W.heap.size ∧ ∀ i (h : i < l.length), StepAt W b (o + i * 5) l[i])

theorem BytesAt.below {W W' : World} {v : Value} {l : List Nat} (h : BytesAt W v l) (hb : Below W.heap.size W W') : ∃ A n c, v = .slice A n c ∧ Row W' W.heap.size 1 A n (byts l) ∧ l.length = n ∧ n ≤ c ∧ c ≤ maxLen ∧ (A = none → c = 0) ∧ ∀ u ∈ l, u < 256 := by
  obtain ⟨A, n, c, rfl, hr, h⟩ := h
  exact ⟨A, n, c, rfl, hr.below hb, h⟩

theorem step_info : Try.prog.cellsOf 48 = 5 := by kernel_rfl
theorem open_steps {H : Type} {enc : TypeId × Value → H} {W : World} {base : Nat} {r : Reach} {v : Value} {d : DataW H} {p : List MemPlace}
    (hv : Value.okWide Try.prog W r base 44 v) (h : DataW.Trod enc Try.prog W 0 (fun _ => true) true 44 v d p) :
    ∃ (A : Option Addr) (n c : Nat) (l : List StepV), v = .slice A n c ∧ Steps W A n l := by
  obtain ⟨A, n, c, rfl, _, hc⟩ := open_structs Try.underlying44 Try.underlying48 (Deep.hone_of (by kernel_rfl)) (by kernel_rfl) (by decide) hv h
  rcases Nat.eq_zero_or_pos n with hn | hn
  · subst hn
    exact ⟨A, 0, c, [], rfl, rfl, fun h => by omega⟩
  · obtain ⟨b, o, rfl, hb, hf⟩ := hc hn
    obtain ⟨l, hl, hp⟩ := choose_list (n := n) (p := fun i x => StepAt W b (o + i * 5) x) (fun i hi => by
      obtain ⟨u0, _, _, h0, t0⟩ := hf i hi 0 _ rfl
      obtain ⟨u1, _, _, h1, t1⟩ := hf i hi 1 _ rfl
      obtain ⟨u2, _, _, h2, t2⟩ := hf i hi 2 _ rfl
      obtain ⟨u3, _, _, h3, t3⟩ := hf i hi 3 _ rfl
      obtain ⟨u4, _, _, h4, t4⟩ := hf i hi 4 _ rfl
      obtain ⟨m0, e0, _, w0⟩ := DataW.trod_int Try.underlying3 t0
      obtain ⟨l1, e1⟩ := trod_bytes Try.underlying31 Try.underlying5 (by kernel_rfl) t1
      obtain ⟨m2, e2, _, w2⟩ := DataW.trod_int Try.underlying26 t2
      obtain ⟨m3, e3, _, w3⟩ := DataW.trod_int Try.underlying30 t3
      obtain ⟨m4, e4, _, w4⟩ := DataW.trod_int Try.underlying30 t4
      simp only [List.cons.injEq, and_true] at e0 e2 e3 e4
      subst e0 e2 e3 e4
      obtain ⟨n2, rfl, b2⟩ := u32_nat w2
      obtain ⟨n3, rfl, b3⟩ := u64_nat w3
      obtain ⟨n4, rfl, b4⟩ := u64_nat w4
      exact ⟨⟨m0, l1, n2, n3, n4⟩, h0, ⟨u1, h1, e1⟩, h2, h3, h4, b2, b3, b4⟩)
    exact ⟨_, n, c, l, rfl, hl, fun _ => ⟨b, o, rfl, hb, hp⟩⟩
theorem StepAt.below {W W' : World} {b o : Nat} {s : StepV} (h : StepAt W b o s) (hb : Below W.heap.size W W') (hlt : b < W.heap.size) :
    W'.cell? ⟨b, o, none⟩ = some (.int .i64 s.kind) ∧ (∃ A n c, W'.cell? ⟨b, o + 1, none⟩ = some (.slice A n c) ∧ Row W' W.heap.size 1 A n (byts s.x) ∧ s.x.length = n ∧ n ≤ c ∧ c ≤ maxLen ∧ (A = none → c = 0) ∧ ∀ u ∈ s.x, u < 256) ∧
    W'.cell? ⟨b, o + 2, none⟩ = some (.int .u32 (s.seq : Int)) ∧ W'.cell? ⟨b, o + 3, none⟩ = some (.int .u64 (s.now : Int)) ∧ W'.cell? ⟨b, o + 4, none⟩ = some (.int .u64 (s.wait : Int)) := by
  obtain ⟨h0, ⟨u, h1, hu⟩, h2, h3, h4, _⟩ := h
  have hc : ∀ j, W'.cell? ⟨b, j, none⟩ = W.cell? ⟨b, j, none⟩ := fun j => hb.cell (p := ⟨b, j, none⟩) hlt
  obtain ⟨A, n, c, rfl, hr⟩ := BytesAt.below hu hb
  exact ⟨by rw [hc]; exact h0, ⟨A, n, c, by rw [hc]; exact h1, hr⟩, by rw [hc]; exact h2, by rw [hc]; exact h3, by rw [hc]; exact h4⟩
end Go.Proofs.Ytlpjglcnbjbpcaa.Win
