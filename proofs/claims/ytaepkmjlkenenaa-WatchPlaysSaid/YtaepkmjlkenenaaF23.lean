/- A script that came in: looks, and rules more; whether it is more than is gone through. -/
import Derived.Test.YtaepkmjlkenenaaF22
import Derived.Test.YtaepkmjlkenenaaF21
namespace Go.Proofs.Ytaepkmjlkenenaa
open Go.RowKit

/-- a step of a script: 'lv' is where its firings lie -/
structure Stp where
  add : Bool
  r : Fi.Rule
  lv : Value
  l : List Fi.Fire
  now : Int
def stpC (s : Stp) : List Value := [.bool s.add, .int .u8 s.r.kind, .int .u64 s.r.job, .int .i64 s.r.n, s.lv, .int .i64 s.now]
theorem stpC_len (s : Stp) : (stpC s).length = 6 := rfl
def StpOk (w : World) (s : Stp) : Prop := Fires w s.lv s.l ∧ (∀ f ∈ s.l, Fi.I64 f.at') ∧ Fi.I64 s.now ∧ (s.l.length : Int) ≤ 140737488355328
def Steps (w : World) (v : Value) (l : List Stp) : Prop := Row stpC w v l ∧ ∀ s ∈ l, StpOk w s
theorem Steps.keep {w w' : World} {v : Value} {l : List Stp} (h : Steps w v l) (hb : Below w.heap.size w w') : Steps w' v l :=
  ⟨h.1.keep hb, fun s hs => ⟨(h.2 s hs).1.keep hb, (h.2 s hs).2⟩⟩
theorem Steps.at {w : World} {ao : Option Addr} {n cap : Nat} {l : List Stp} (h : Steps w (.slice ao n cap) l) (hl : 0 < l.length) :
    ∃ b off, ao = some ⟨b, off, none⟩ ∧ b < w.heap.size ∧ ∀ i (hi : i < l.length), w.cell? ⟨b, off + i * 6, none⟩ = some (.bool l[i].add) ∧ w.cell? ⟨b, off + i * 6 + 1, none⟩ = some (.int .u8 l[i].r.kind) ∧ w.cell? ⟨b, off + i * 6 + 2, none⟩ = some (.int .u64 l[i].r.job) ∧ w.cell? ⟨b, off + i * 6 + 3, none⟩ = some (.int .i64 l[i].r.n) ∧ w.cell? ⟨b, off + i * 6 + 4, none⟩ = some l[i].lv ∧ w.cell? ⟨b, off + i * 6 + 5, none⟩ = some (.int .i64 l[i].now) := by
  obtain ⟨b, off, h1, h2, h3⟩ := Row.at stpC_len (by omega) h.1 hl
  refine ⟨b, off, h1, h2, fun i hi => ?_⟩
  have h4 := h3 i l[i] (List.getElem?_eq_getElem hi)
  exact ⟨h4 0 _ rfl, h4 1 _ rfl, h4 2 _ rfl, h4 3 _ rfl, h4 4 _ rfl, h4 5 _ rfl⟩
/-- how many looks, and firings -/
def tot (l : List Stp) : Nat := (l.map fun s => 1 + s.l.length).sum
theorem tot_snoc (l : List Stp) (s : Stp) : tot (l ++ [s]) = tot l + (1 + s.l.length) := by simp [tot]
set_option maxRecDepth 100000 in
set_option maxHeartbeats 400000 in
theorem great_any (rules : List Fi.Rule) (l : List Stp) (vr vl : Value) (w : World) (hr : Rus w vr rules) (hl : Steps w vl l) :
    Calls Try.prog 18 #[vr, vl] w fun e w' => ∃ q, e = .returned (.bool q) ∧ (q = false → tot l ≤ 600 ∧ rules.length ≤ 100) ∧ Below w.heap.size w w' := by
  obtain ⟨ro, rcap, rfl, g1, g2, g3⟩ := hr.form
  obtain ⟨ao, cap, rfl, h1, h2, h3⟩ := hl.1.form
  have hl9 : (l.length : Int) ≤ 9223372036854775807 := by unfold maxLen at h2; omega
  go_enter Try.func18, Try.ntmps18
  go_wp2_with fail
  go_loopw [5, 10] (fun nn ii wr => ∃ k : Nat, k ≤ l.length ∧ ii = .int .i64 k ∧ nn = .int .i64 (tot (l.take k)) ∧ tot (l.take k) ≤ 600 ∧ Below w.heap.size w wr) (fun _ ii _ => l.length - (intOf ii).toNat)
  case atStart => exact ⟨0, Nat.zero_le _, rfl, rfl, by simp [tot], Below.refl _ _⟩
  case round =>
    obtain ⟨k, hk, rfl, rfl, htot, hbr⟩ := hrel
    by_cases hlt : k < l.length
    · have hlt' : (k : Int) < (l.length : Int) := by omega
      obtain ⟨bl, off, rfl, hbl, hca⟩ := Steps.at (hl.keep hbr) (by omega)
      obtain ⟨c0, c1, c2, c3, c4, c5⟩ := hca k hlt
      have hts : tot (l.take (k + 1)) = tot (l.take k) + (1 + l[k].l.length) := by rw [List.take_succ_eq_append_getElem hlt, tot_snoc]
      have hS := (hl.keep hbr).2 l[k] (List.getElem_mem hlt)
      have hb2 := hbr.trans ((Below.al (Below.refl _ wr) (.cells #[.bool l[k].add, .int .u8 l[k].r.kind, .int .u64 l[k].r.job, .int .i64 l[k].r.n, l[k].lv, .int .i64 l[k].now] 48)).mono hbr.size)
      clear hca
      obtain ⟨xo, xc, hx, x1, x2, x3⟩ := hS.1.form
      have hml := hS.2.2.2
      generalize l[k] = x at *
      rw [hx] at c4
      clear hS
      by_cases hg : 600 < tot (l.take (k + 1))
      · have hg' : (600 : Int) < (tot (l.take k) : Int) + (1 + (x.l.length : Int)) := by omega
        clear hts hg
        go_wp2_with fail
        go_ret
        exact ⟨true, rfl, (fun h => by cases h), by rw [hx] at hb2; exact hb2⟩
      · have hg' : ¬ (600 : Int) < (tot (l.take k) : Int) + (1 + (x.l.length : Int)) := by omega
        have HG := Lib.hid hg
        clear hg
        have HT := Lib.hid hts
        clear hts
        go_wp2_with fail
        refine ⟨⟨k + 1, by omega, by simp, ?_, by have := HG.out; omega, by rw [hx] at hb2; exact hb2⟩, by simp [intOf]; omega⟩
        rw [HT.out]; simp
    · obtain rfl : k = l.length := by omega
      rw [List.take_length] at htot
      go_wp2_with fail
      go_ret
      exact ⟨_, rfl, (fun h => ⟨htot, by have h := of_decide_eq_false h; omega⟩), hbr⟩
end Go.Proofs.Ytaepkmjlkenenaa
