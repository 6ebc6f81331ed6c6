import Derived.Test.YtaepkmjlkenenaaF7
namespace Go.Proofs.Ytaepkmjlkenenaa
open Go.RowKit

def ruC (r : Fi.Rule) : List Value := [.int .u8 r.kind, .int .u64 r.job, .int .i64 r.n]
theorem ruC_len (r : Fi.Rule) : (ruC r).length = 3 := rfl
abbrev Rus (w : World) (v : Value) (l : List Fi.Rule) : Prop := Row ruC w v l
theorem Rus.at {w : World} {ao : Option Addr} {n cap : Nat} {l : List Fi.Rule} (h : Rus w (.slice ao n cap) l) (hl : 0 < l.length) :
    ∃ b off, ao = some ⟨b, off, none⟩ ∧ b < w.heap.size ∧ ∀ i (hi : i < l.length), w.cell? ⟨b, off + i * 3, none⟩ = some (.int .u8 l[i].kind) ∧ w.cell? ⟨b, off + i * 3 + 1, none⟩ = some (.int .u64 l[i].job) ∧ w.cell? ⟨b, off + i * 3 + 2, none⟩ = some (.int .i64 l[i].n) := by
  obtain ⟨b, off, h1, h2, h3⟩ := Row.at ruC_len (by omega) h hl
  refine ⟨b, off, h1, h2, fun i hi => ?_⟩
  have h4 := h3 i l[i] (List.getElem?_eq_getElem hi)
  exact ⟨h4 0 _ rfl, h4 1 _ rfl, h4 2 _ rfl⟩
def bad (r : Fi.Rule) : Bool := !Fi.may r
set_option maxRecDepth 100000 in
theorem bad_any (r : Fi.Rule) (w : World) : Calls Try.prog 43 #[ruleV r] w fun e w' => e = .returned (.bool (bad r)) ∧ Below w.heap.size w w' := by
  have hm := ruleMay_any r
  have hb : bad r = !Fi.may r := rfl
  generalize Fi.may r = q at *
  have HB := Lib.hid hb
  clear hb
  unfold ruleV at *
  go_enter Try.func43, Try.ntmps43
  go_wp2_with fail
  refine (hm _).mono ?_
  rintro e w1 ⟨rfl, hc⟩
  go_wp2_with fail
  go_ret
  exact ⟨ret_bool HB.out.symm, Below.call (Below.al (Below.refl _ _) _) hc⟩
set_option maxRecDepth 100000 in
theorem index_bad (l : List Fi.Rule) (v : Value) (hn : l.length ≤ 9223372036854775807) (w : World) (hl : Rus w v l) :
    Calls Try.prog 48 #[v, .func (.func 43) #[] #[]] w fun e w' => ∃ i : Int, e = .returned (.int .i64 i) ∧ decide (0 ≤ i) = l.any bad ∧ Below w.heap.size w w' := by
  obtain ⟨ao, cap, rfl, h1, h2, h3⟩ := hl.form
  go_enter Try.func48, Try.ntmps48
  go_wp2_with fail
  go_loopw [8] (fun i wr => ∃ k : Nat, k ≤ l.length ∧ i = .int .i64 k ∧ (l.take k).any bad = false ∧ Below w.heap.size w wr) (fun i _ => l.length - (intOf i).toNat)
  case atStart => exact ⟨0, Nat.zero_le _, rfl, by simp, Below.refl _ _⟩
  case round =>
    obtain ⟨k, hk, rfl, hnone, hbr⟩ := hrel
    by_cases hlt : k < l.length
    · have hlt' : (k : Int) < (l.length : Int) := by omega
      obtain ⟨bl, off, rfl, hbl, hca⟩ := Rus.at (hl.keep hbr) (by omega)
      obtain ⟨c0, c1, c2⟩ := hca k hlt
      have hts : (l.take (k + 1)).any bad = ((l.take k).any bad || bad l[k]) := by rw [List.take_succ_eq_append_getElem hlt, List.any_append]; simp only [List.any_cons, List.any_nil, Bool.or_false]
      have hin : l.any bad = true ∨ bad l[k] = false := by
        cases hp : bad l[k] with
        | true => left; rw [List.any_eq_true]; exact ⟨l[k], List.getElem_mem hlt, hp⟩
        | false => right; rfl
      have hX := bad_any l[k]
      rw [hnone] at hts
      clear hca hnone
      generalize l[k] = x at *
      cases hp : bad x with
      | true =>
        rw [hp] at hX
        have HIN := Lib.hid hin
        have HP := Lib.hid hp
        clear hin hp hts
        go_wp2_with fail
        refine (hX _).mono ?_
        clear hX
        rintro e w1 ⟨rfl, hc⟩
        go_wp2_with fail
        go_ret
        refine ⟨k, rfl, ?_, Below.call hbr hc⟩
        rcases HIN.out with h | h
        · rw [h]; simp
        · rw [HP.out] at h; cases h
      | false =>
        rw [hp] at hX
        rw [hp] at hts
        have HTS := Lib.hid hts
        clear hin hp hts
        go_wp2_with fail
        refine (hX _).mono ?_
        clear hX
        rintro e w1 ⟨rfl, hc⟩
        go_wp2_with fail
        exact ⟨⟨k + 1, by omega, by go_num, by rw [HTS.out]; rfl, Below.call hbr hc⟩, by simp [intOf]; omega⟩
    · obtain rfl : k = l.length := by omega
      rw [List.take_length] at hnone
      have HN := Lib.hid hnone
      clear hnone
      go_wp2_with fail
      go_ret
      exact ⟨-1, rfl, by rw [HN.out]; decide, hbr⟩
set_option maxRecDepth 100000 in
theorem contains_bad (l : List Fi.Rule) (v : Value) (hn : l.length ≤ 9223372036854775807) (w : World) (hl : Rus w v l) :
    Calls Try.prog 42 #[v, .func (.func 43) #[] #[]] w fun e w' => e = .returned (.bool (l.any bad)) ∧ Below w.heap.size w w' := by
  have hI := index_bad l v hn w hl
  generalize l.any bad = q at *
  go_enter Try.func42, Try.ntmps42
  go_wp2_with fail
  refine hI.mono ?_
  clear hI
  rintro e w1 ⟨i, rfl, hi, hc⟩
  have HI := Lib.hid hi
  clear hi
  go_wp2_with fail
  go_ret
  exact ⟨ret_bool HI.out, hc⟩
/-- a rule's state, at first -/
def st0 (r : Fi.Rule) : Fi.St := ⟨r, false, 0⟩
/-- what New tells -/
def newE (l : List Fi.Rule) : Int := if l.any bad = true then 2 else if 64 < l.length then 6 else 0
theorem WV.new (w : World) (b : Nat) (h : b = w.heap.size) : WV (w.alloc (.cells #[.slice none 0 0, .int .i64 (-1)] 83)) b (.slice none 0 0) [] (-1) := by
  subst h
  exact ⟨by unfold World.alloc; simp, World.ownsRow_nil _ _ 88 5⟩
set_option maxRecDepth 100000 in
set_option maxHeartbeats 4000000 in
theorem new_any (l : List Fi.Rule) (vr : Value) (hn : l.length ≤ 9223372036854775807) (w : World) (hl : Rus w vr l) :
    Calls Try.prog 17 #[vr] w fun e w' => (newE l ≠ 0 ∧ e = .returned (.tuple #[.pointer none, .int .i64 (newE l)]) ∧ Below w.heap.size w w') ∨
      (newE l = 0 ∧ ∃ b v, e = .returned (.tuple #[.pointer (some ⟨b, 0, none⟩), .int .i64 0]) ∧ w.heap.size ≤ b ∧ WV w' b v (l.map st0) (-1) ∧ Below w.heap.size w w') := by
  obtain ⟨ao, cap, rfl, h1, h2, h3⟩ := hl.form
  have W0 := WV.new w w.heap.size rfl
  have hal := Below.al (Below.refl w.heap.size w) (.cells #[.slice none 0 0, .int .i64 (-1)] 83)
  have hl1 := hl.keep hal
  obtain ⟨b, hB⟩ : ∃ b, w.heap.size = b := ⟨_, rfl⟩
  have hcb := contains_bad l _ hn _ hl1
  have hE : newE l = if l.any bad = true then 2 else if 64 < l.length then 6 else 0 := rfl
  have hgood : l.any bad = false → ∀ r ∈ l, Fi.may r = true := by
    intro h r hr
    cases hm : Fi.may r with
    | true => rfl
    | false =>
      have : l.any bad = true := by rw [List.any_eq_true]; exact ⟨r, hr, by unfold bad; rw [hm]; rfl⟩
      rw [h] at this; cases this
  cases hq : l.any bad with
  | true =>
    rw [hq, if_pos rfl] at hE
    rw [hq] at hcb
    have HE := Lib.hid hE
    clear hE hq hgood
    go_enter Try.func17, Try.ntmps17
    go_wp2_with fail
    refine hcb.mono ?_
    rintro e w1 ⟨rfl, hc⟩
    go_wp2_with fail
    go_ret2
    exact .inl ⟨by rw [HE.out]; decide, by rw [HE.out]; rfl, Below.call hal hc⟩
  | false =>
    have hall := hgood hq
    rw [hq, if_neg (by decide)] at hE
    rw [hq] at hcb
    have HE := Lib.hid hE
    have HALL := Lib.hid hall
    clear hE hq hgood hall
    go_enter Try.func17, Try.ntmps17
    go_wp2_with fail
    refine hcb.mono ?_
    clear hcb
    rintro e w1 ⟨rfl, hc⟩
    have W1 := W0.keep hc
    have hb1 := Below.call hal hc
    rw [hB] at W1 hb1
    clear W0 hal hl1 hc
    go_wp2_with fail
    go_loopw [15] (fun i wr => ∃ (k : Nat) (v : Value), i = .int .i64 k ∧ k ≤ l.length ∧ k ≤ 64 ∧ WV wr b v ((l.take k).map st0) (-1) ∧ Below b w wr) (fun i _ => l.length - (intOf i).toNat)
    case atStart => exact ⟨0, _, rfl, Nat.zero_le _, Nat.zero_le _, W1, hb1⟩
    case round =>
      clear W1 hb1
      obtain ⟨k, v, rfl, hk, hk64, W, hbr⟩ := hrel
      by_cases hlt : k < l.length
      · have hlt' : (k : Int) < (l.length : Int) := by omega
        obtain ⟨bl, off, rfl, hbl, hca⟩ := Rus.at (hl.keep (hB ▸ hbr)) (by omega)
        obtain ⟨c0, c1, c2⟩ := hca k hlt
        have hmay := HALL.out l[k] (List.getElem_mem hlt)
        have hlen : ((l.take k).map st0).length = k := by simp; omega
        have hsucc : (l.take (k + 1)).map st0 = (l.take k).map st0 ++ [st0 l[k]] := by rw [List.take_succ_eq_append_getElem hlt, List.map_append]; rfl
        generalize l[k] = x at *
        generalize (l.take k).map st0 = L at *
        have hal := Below.al (Below.refl wr.heap.size wr) (.cells #[.int .u8 x.kind, .int .u64 x.job, .int .i64 x.n] 34)
        have hbl2 := W.lt
        replace W := W.keep hal
        have hbr2 := hbr.trans (hal.mono (by omega))
        have HSU := Lib.hid hsucc
        clear hca hsucc
        by_cases h64 : k < 64
        · have hA := add_any b v L (-1) (by omega) x hmay _ W
          rw [hlen] at hA
          go_wp2_with fail
          refine hA.mono ?_
          clear hA
          rintro e w3 ⟨v', rfl, W3, -, -, hb3⟩
          go_wp2_with fail
          exact ⟨⟨k + 1, v', by go_num, by omega, by omega, by rw [HSU.out]; exact W3, hbr2.trans hb3⟩, by simp [intOf]; omega⟩
        · have hA := add_full b v L (-1) (by omega) x hmay _ W
          have hE6 : newE l = 6 := by rw [HE.out, if_pos (by omega)]
          have H6 := Lib.hid hE6
          clear hE6 hlen
          go_wp2_with fail
          refine hA.mono ?_
          clear hA
          rintro e w3 ⟨rfl, hb3⟩
          go_wp2_with fail
          go_ret2
          exact .inl ⟨by rw [H6.out]; decide, by rw [H6.out]; rfl, hB ▸ (hbr2.trans (hb3.mono (by simp; omega)))⟩
      · obtain rfl : k = l.length := by omega
        rw [List.take_length] at W
        have hE0 : newE l = 0 := by rw [HE.out, if_neg (by omega)]
        have H0 := Lib.hid hE0
        clear hE0
        go_wp2_with fail
        go_ret2
        exact .inr ⟨H0.out, b, v, rfl, by omega, W, hB ▸ hbr⟩
end Go.Proofs.Ytaepkmjlkenenaa
