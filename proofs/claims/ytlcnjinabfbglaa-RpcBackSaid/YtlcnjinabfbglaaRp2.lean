/- Plain: what is parsed is what was put; the document's parsing is the program's. -/
import Derived.Test.YtlcnjinabfbglaaPk4
namespace Go.Proofs.Ytlcnjinabfbglaa.Rp
open Pk
/-- a number of 64 bits -/
abbrev N64 (n : Nat) : Prop := n < 18446744073709551616
structure Ent where
  idx : Nat
  term : Nat
  body : List UInt8
structure Msg where
  kind : Int
  frm : Nat
  to : Nat
  term : Nat
  pre : Bool
  ok : Bool
  index : Nat
  logTerm : Nat
  commit : Nat
  ents : List Ent
  peers : List Nat
  sidx : Nat
  sterm : Nat
  image : List UInt8
/-- an entry's record -/
def record (e : Ent) : List UInt8 := put e.idx ++ (put e.term ++ putText e.body)
def mayE (e : Ent) : Bool := e.idx != 0 && decide (e.body.length ≤ 2000)
def Ent.N (e : Ent) : Prop := N64 e.idx ∧ N64 e.term
def parseE (b : List UInt8) : Option Ent :=
  match take b 0 with
  | none => none
  | some (i, a) => match take b a with
    | none => none
    | some (t, n) => match takeText b n with
      | none => none
      | some (s, j) => if j = b.length ∧ i ≠ 0 ∧ s.length ≤ 2000 then some ⟨i, t, s⟩ else none
theorem record_len (e : Ent) (h : mayE e = true) : (record e).length ≤ 2030 := by
  simp only [mayE, Bool.and_eq_true, decide_eq_true_eq] at h
  have h1 := put_len e.idx
  have h2 := put_len e.term
  have h3 := put_len e.body.length
  simp only [record, putText, List.length_append]
  omega
theorem parseE_record (e : Ent) (hn : e.N) (h : mayE e = true) : parseE (record e) = some e := by
  simp only [mayE, Bool.and_eq_true, decide_eq_true_eq, bne_iff_ne] at h
  have h1 := take_put [] (put e.term ++ putText e.body) e.idx hn.1 0 rfl
  have h2 := take_put (put e.idx) (putText e.body) e.term hn.2 _ rfl
  have h3 := takeText_put (put e.idx ++ put e.term) [] e.body _ rfl (by omega)
  simp only [List.nil_append, List.append_assoc, Nat.zero_add, List.append_nil] at h1 h2 h3
  unfold parseE record
  rw [h1]
  simp only
  rw [h2]
  simp only
  rw [List.length_append] at h3
  rw [h3]
  simp only
  rw [if_pos ⟨by simp only [List.length_append]; omega, h.1, h.2⟩]
theorem parseE_some (b : List UInt8) (e : Ent) (h : parseE b = some e) : b = record e ∧ mayE e = true ∧ e.N := by
  unfold parseE at h
  cases h1 : take b 0 with
  | none => rw [h1] at h; cases h
  | some p =>
    obtain ⟨i, a⟩ := p
    rw [h1] at h
    simp only at h
    cases h2 : take b a with
    | none => rw [h2] at h; cases h
    | some p =>
      obtain ⟨t, n⟩ := p
      rw [h2] at h
      simp only at h
      cases h3 : takeText b n with
      | none => rw [h3] at h; cases h
      | some p =>
        obtain ⟨s, j⟩ := p
        rw [h3] at h
        simp only at h
        split at h
        · rename_i hc
          obtain rfl := Option.some.inj h
          obtain ⟨c1, c2, c3⟩ := take_canon b 0 i a h1
          obtain ⟨d1, d2, d3⟩ := take_canon b a t n h2
          obtain ⟨e1, e2, e3, e4⟩ := takeText_canon b n j s h3
          refine ⟨?_, by simp [mayE, hc.2.1, hc.2.2], c2, d2⟩
          unfold record
          simp only
          rw [← c1, ← d1, ← e1, List.drop_zero, Nat.sub_zero, hc.1, List.take_of_length_le (l := b.drop n) (by rw [List.length_drop]; omega)]
          have q : b.drop n = (b.drop a).drop (n - a) := by rw [List.drop_drop]; congr 1; omega
          rw [q, List.take_append_drop, List.take_append_drop]
        · cases h
/-- numbers one by one: none: something was amiss -/
def numO (b : List UInt8) (most : Nat) : Option Nat → Nat × Option Nat
  | none => (0, none)
  | some a => match take b a with
    | none => (0, none)
    | some (n, j) => if n ≤ most then (n, some j) else (0, none)
theorem numO_put (a r : List UInt8) (n most : Nat) (hn : N64 n) (hm : n ≤ most) (at_ : Nat) (ha : at_ = a.length) : numO (a ++ put n ++ r) most (some at_) = (n, some (at_ + (put n).length)) := by
  unfold numO
  simp only
  rw [take_put a r n hn at_ ha]
  simp only
  rw [if_pos hm]
/-- what was read, stood there -/
theorem numO_some (b : List UInt8) (most : Nat) (s : Option Nat) (n j : Nat) (h : numO b most s = (n, some j)) : ∃ a, s = some a ∧ (b.drop a).take (j - a) = put n ∧ N64 n ∧ n ≤ most ∧ a < j ∧ (a ≤ b.length → j ≤ b.length) := by
  cases s with
  | none => simp [numO] at h
  | some a =>
    unfold numO at h
    simp only at h
    cases ht : take b a with
    | none => rw [ht] at h; simp at h
    | some p =>
      obtain ⟨v, k⟩ := p
      rw [ht] at h
      simp only at h
      split at h
      · rename_i hv
        simp only [Prod.mk.injEq, Option.some.injEq] at h
        obtain ⟨rfl, rfl⟩ := h
        obtain ⟨c1, c2, c3⟩ := take_canon b a v k ht
        exact ⟨a, rfl, c1, c2, hv, c3, fun ha => (take_le b a v k ht ha).2⟩
      · simp at h
theorem numO_le (b : List UInt8) (most : Nat) (s : Option Nat) : (numO b most s).1 ≤ most := by
  cases s with
  | none => simp [numO]
  | some a =>
    unfold numO
    simp only
    cases take b a with
    | none => simp
    | some p =>
      obtain ⟨n, j⟩ := p
      simp only
      split
      · assumption
      · simp
theorem numO_none (b : List UInt8) (most : Nat) : numO b most none = (0, none) := rfl
/-- entries one by one -/
def entsO (b : List UInt8) : Nat → Option Nat → List Ent × Option Nat
  | 0, s => ([], s)
  | _ + 1, none => ([], none)
  | k + 1, some a => match takeText b a with
    | none => ([], none)
    | some (s, j) => match parseE s with
      | none => ([], none)
      | some e => (e :: (entsO b k (some j)).1, (entsO b k (some j)).2)
def peersO (b : List UInt8) : Nat → Option Nat → List Nat × Option Nat
  | 0, s => ([], s)
  | k + 1, s => ((numO b 18446744073709551615 s).1 :: (peersO b k (numO b 18446744073709551615 s).2).1, (peersO b k (numO b 18446744073709551615 s).2).2)
def entsB (es : List Ent) : List UInt8 := es.flatMap fun e => putText (record e)
def numsB (ns : List Nat) : List UInt8 := ns.flatMap put
theorem entsO_put : ∀ (es : List Ent) (a r : List UInt8), (∀ e ∈ es, e.N ∧ mayE e = true) → entsO (a ++ entsB es ++ r) es.length (some a.length) = (es, some (a.length + (entsB es).length))
  | [], a, r, _ => by simp [entsO, entsB]
  | e :: es, a, r, h => by
    have he := h e (List.mem_cons_self ..)
    have e1 : a ++ entsB (e :: es) ++ r = a ++ putText (record e) ++ (entsB es ++ r) := by simp [entsB]
    have e2 : a ++ putText (record e) ++ (entsB es ++ r) = (a ++ putText (record e)) ++ entsB es ++ r := by simp
    have ht := takeText_put a (entsB es ++ r) (record e) a.length rfl (by have := record_len e he.2; omega)
    have ih := entsO_put es (a ++ putText (record e)) r (fun x hx => h x (List.mem_cons_of_mem _ hx))
    rw [← e2, List.length_append] at ih
    rw [e1, List.length_cons, entsO, ht]
    simp only
    rw [parseE_record e he.1 he.2]
    simp only
    rw [ih]
    simp [entsB, Nat.add_assoc]
theorem entsO_some : ∀ (k : Nat) (b : List UInt8) (s : Option Nat) (es : List Ent) (j : Nat), entsO b k s = (es, some j) → ∃ a, s = some a ∧ es.length = k ∧ (∀ e ∈ es, e.N ∧ mayE e = true) ∧ (b.drop a).take (j - a) = entsB es ∧ a ≤ j ∧ (a ≤ b.length → j ≤ b.length)
  | 0, b, s, es, j, h => by
    simp only [entsO, Prod.mk.injEq] at h
    obtain ⟨rfl, rfl⟩ := h
    exact ⟨j, rfl, rfl, by simp, by simp [entsB], Nat.le_refl _, fun h => h⟩
  | k + 1, b, none, es, j, h => by simp [entsO] at h
  | k + 1, b, some a, es, j, h => by
    rw [entsO] at h
    cases ht : takeText b a with
    | none => rw [ht] at h; simp at h
    | some p =>
      obtain ⟨t, i⟩ := p
      rw [ht] at h
      simp only at h
      cases hp : parseE t with
      | none => rw [hp] at h; simp at h
      | some e =>
        rw [hp] at h
        simp only at h
        obtain ⟨c1, c2, c3, c4⟩ := takeText_canon b a i t ht
        obtain ⟨p1, p2, p3⟩ := parseE_some t e hp
        cases hr : entsO b k (some i) with
        | mk es' s' =>
          rw [hr] at h
          simp only [Prod.mk.injEq] at h
          obtain ⟨rfl, rfl⟩ := h
          obtain ⟨a', q1, q2, q3, q4, q5, q6⟩ := entsO_some k b (some i) es' j hr
          obtain rfl := Option.some.inj q1
          refine ⟨a, rfl, by simp [q2], ?_, ?_, by omega, fun ha => q6 (c4 ha)⟩
          · intro x hx
            rcases List.mem_cons.1 hx with rfl | hx
            · exact ⟨p3, p2⟩
            · exact q3 x hx
          · have e1 : entsB (e :: es') = putText (record e) ++ entsB es' := by simp [entsB]
            rw [e1, ← q4, ← p1, ← c1, show j - a = (i - a) + (j - i) by omega, List.take_add, List.drop_drop, show a + (i - a) = i by omega]
theorem peersO_put : ∀ (ns : List Nat) (a r : List UInt8), (∀ n ∈ ns, N64 n) → peersO (a ++ numsB ns ++ r) ns.length (some a.length) = (ns, some (a.length + (numsB ns).length))
  | [], a, r, _ => by simp [peersO, numsB]
  | n :: ns, a, r, h => by
    have hn := h n (List.mem_cons_self ..)
    have e1 : a ++ numsB (n :: ns) ++ r = a ++ put n ++ (numsB ns ++ r) := by simp [numsB]
    have e2 : a ++ put n ++ (numsB ns ++ r) = (a ++ put n) ++ numsB ns ++ r := by simp
    have ih := peersO_put ns (a ++ put n) r (fun x hx => h x (List.mem_cons_of_mem _ hx))
    rw [← e2, List.length_append] at ih
    have h1 := numO_put a (numsB ns ++ r) n 18446744073709551615 hn (by unfold N64 at hn; omega) a.length rfl
    rw [e1, List.length_cons, peersO, h1]
    simp only
    rw [ih]
    simp [numsB, Nat.add_assoc]
theorem peersO_some : ∀ (k : Nat) (b : List UInt8) (s : Option Nat) (ns : List Nat) (j : Nat), peersO b k s = (ns, some j) → ∃ a, s = some a ∧ ns.length = k ∧ (∀ n ∈ ns, N64 n) ∧ (b.drop a).take (j - a) = numsB ns ∧ a ≤ j ∧ (a ≤ b.length → j ≤ b.length)
  | 0, b, s, ns, j, h => by
    simp only [peersO, Prod.mk.injEq] at h
    obtain ⟨rfl, rfl⟩ := h
    exact ⟨j, rfl, rfl, by simp, by simp [numsB], Nat.le_refl _, fun h => h⟩
  | k + 1, b, s, ns, j, h => by
    rw [peersO] at h
    cases h1 : numO b 18446744073709551615 s with
    | mk n s1 =>
      rw [h1] at h
      simp only at h
      cases hr : peersO b k s1 with
      | mk ns' s' =>
        rw [hr] at h
        simp only [Prod.mk.injEq] at h
        obtain ⟨rfl, rfl⟩ := h
        obtain ⟨i, q1, q2, q3, q4, q5, q6⟩ := peersO_some k b s1 ns' j hr
        subst q1
        obtain ⟨a, c0, c1, c2, c3, c4, c5⟩ := numO_some b _ s n i h1
        refine ⟨a, c0, by simp [q2], ?_, ?_, by omega, fun ha => q6 (c5 ha)⟩
        · intro x hx
          rcases List.mem_cons.1 hx with rfl | hx
          · exact c2
          · exact q3 x hx
        · have e1 : numsB (n :: ns') = put n ++ numsB ns' := by simp [numsB]
          rw [e1, ← q4, ← c1, show j - a = (i - a) + (j - i) by omega, List.take_add, List.drop_drop, show a + (i - a) = i by omega]
end Go.Proofs.Ytlcnjinabfbglaa.Rp
namespace Go.Proofs.Ytlcnjinabfbglaa.Rp
open Pk
abbrev any : Nat := 18446744073709551615
def rises : Nat → List Nat → Bool
  | _, [] => true
  | last, x :: r => decide (last < x) && rises x r
def mayP (l : List Nat) : Bool := rises 0 l && decide (1 ≤ l.length) && decide (l.length ≤ 7)
def may (m : Msg) : Bool := decide (1 ≤ m.kind) && decide (m.kind ≤ 5) && decide (m.ents.length ≤ 16) && decide (m.image.length ≤ 262144) && (m.peers.isEmpty || mayP m.peers) && m.ents.all mayE
def flags (m : Msg) : Nat := (if m.pre then 1 else 0) + (if m.ok then 2 else 0)
structure Msg.N (m : Msg) : Prop where
  frm : N64 m.frm
  to : N64 m.to
  term : N64 m.term
  index : N64 m.index
  logTerm : N64 m.logTerm
  commit : N64 m.commit
  sidx : N64 m.sidx
  sterm : N64 m.sterm
  ents : ∀ e ∈ m.ents, e.N
  peers : ∀ n ∈ m.peers, N64 n
def h1 (m : Msg) : List Nat := [m.kind.toNat, m.frm, m.to, m.term, flags m, m.index, m.logTerm, m.commit, m.ents.length]
def h3 (m : Msg) : List Nat := [m.sidx, m.sterm, m.image.length]
def head (m : Msg) : List UInt8 := numsB (h1 m) ++ (entsB m.ents ++ (put m.peers.length ++ (numsB m.peers ++ numsB (h3 m))))
def bytes (m : Msg) : List UInt8 := head m ++ m.image
/-- numbers one by one, each with the most that it may be -/
def numsO (b : List UInt8) : List Nat → Option Nat → List Nat × Option Nat
  | [], s => ([], s)
  | m :: ms, s => ((numO b m s).1 :: (numsO b ms (numO b m s).2).1, (numsO b ms (numO b m s).2).2)
theorem numsO_put : ∀ (ns ms : List Nat) (a r : List UInt8), ns.length = ms.length → (∀ n ∈ ns, N64 n) → (∀ i, i < ns.length → ns.getD i 0 ≤ ms.getD i 0) → numsO (a ++ numsB ns ++ r) ms (some a.length) = (ns, some (a.length + (numsB ns).length))
  | [], [], a, r, _, _, _ => by simp [numsO, numsB]
  | n :: ns, m :: ms, a, r, hl, h, hm => by
    have e1 : a ++ numsB (n :: ns) ++ r = a ++ put n ++ (numsB ns ++ r) := by simp [numsB]
    have e2 : a ++ put n ++ (numsB ns ++ r) = (a ++ put n) ++ numsB ns ++ r := by simp
    have ih := numsO_put ns ms (a ++ put n) r (by simpa using hl) (fun x hx => h x (List.mem_cons_of_mem _ hx)) (fun i hi => by have := hm (i + 1) (by simp; omega); simpa using this)
    rw [← e2, List.length_append] at ih
    have h1 := numO_put a (numsB ns ++ r) n m (h n (List.mem_cons_self ..)) (by have := hm 0 (by simp); simpa using this) a.length rfl
    rw [e1, numsO, h1]
    simp only
    rw [ih]
    simp [numsB, Nat.add_assoc]
  | [], _ :: _, _, _, hl, _, _ => by simp at hl
  | _ :: _, [], _, _, hl, _, _ => by simp at hl
theorem numsO_some : ∀ (ms : List Nat) (b : List UInt8) (s : Option Nat) (ns : List Nat) (j : Nat), numsO b ms s = (ns, some j) → ∃ a, s = some a ∧ ns.length = ms.length ∧ (∀ n ∈ ns, N64 n) ∧ (∀ i, i < ns.length → ns.getD i 0 ≤ ms.getD i 0) ∧ (b.drop a).take (j - a) = numsB ns ∧ a ≤ j ∧ (a ≤ b.length → j ≤ b.length)
  | [], b, s, ns, j, h => by
    simp only [numsO, Prod.mk.injEq] at h
    obtain ⟨rfl, rfl⟩ := h
    exact ⟨j, rfl, rfl, by simp, by simp, by simp [numsB], Nat.le_refl _, fun h => h⟩
  | m :: ms, b, s, ns, j, h => by
    rw [numsO] at h
    cases h1 : numO b m s with
    | mk n s1 =>
      rw [h1] at h
      simp only at h
      cases hr : numsO b ms s1 with
      | mk ns' s' =>
        rw [hr] at h
        simp only [Prod.mk.injEq] at h
        obtain ⟨rfl, rfl⟩ := h
        obtain ⟨i, q1, q2, q3, q7, q4, q5, q6⟩ := numsO_some ms b s1 ns' j hr
        subst q1
        obtain ⟨a, c0, c1, c2, c3, c4, c5⟩ := numO_some b _ s n i h1
        refine ⟨a, c0, by simp [q2], ?_, ?_, ?_, by omega, fun ha => q6 (c5 ha)⟩
        · intro x hx
          rcases List.mem_cons.1 hx with rfl | hx
          · exact c2
          · exact q3 x hx
        · intro i hi
          cases i with
          | zero => simpa using c3
          | succ i => have := q7 i (by simpa using hi); simpa using this
        · have e1 : numsB (n :: ns') = put n ++ numsB ns' := by simp [numsB]
          rw [e1, ← q4, ← c1, show j - a = (i - a) + (j - i) by omega, List.take_add, List.drop_drop, show a + (i - a) = i by omega]
/-- what is read: the numbers ahead, the entries, how many peers, the peers, the numbers behind -/
structure Rd where
  A : List Nat × Option Nat
  E : List Ent × Option Nat
  P : Nat × Option Nat
  Q : List Nat × Option Nat
  T : List Nat × Option Nat
def rdS (b : List UInt8) : Rd :=
  let A := numsO b [5, any, any, any, 3, any, any, any, 16] (some 0)
  let E := entsO b (A.1.getD 8 0) A.2
  let P := numO b 7 E.2
  let Q := peersO b P.1 P.2
  ⟨A, E, P, Q, numsO b [any, any, 262144] Q.2⟩
def rdR (b : List UInt8) : Rd :=
  let A := numsO b [any, any, any, any, any, any, any, any, any] (some 0)
  let E := if A.1.getD 8 0 ≤ 16 then entsO b (A.1.getD 8 0) A.2 else ([], A.2)
  let P := numO b any E.2
  let Q := if P.1 ≤ 7 then peersO b P.1 P.2 else ([], P.2)
  ⟨A, E, P, Q, numsO b [any, any, any] Q.2⟩
def msgOf (r : Rd) (image : List UInt8) : Msg :=
  ⟨(r.A.1.getD 0 0 : Nat), r.A.1.getD 1 0, r.A.1.getD 2 0, r.A.1.getD 3 0, decide (r.A.1.getD 4 0 % 2 = 1), decide (r.A.1.getD 4 0 / 2 = 1), r.A.1.getD 5 0, r.A.1.getD 6 0, r.A.1.getD 7 0, r.E.1, r.Q.1, r.T.1.getD 0 0, r.T.1.getD 1 0, image⟩
/-- the program's parsing -/
def parse (b : List UInt8) : Option Msg :=
  match (rdS b).T.2 with
  | none => none
  | some j => if b.length - j = (rdS b).T.1.getD 2 0 ∧ may (msgOf (rdS b) (b.drop j)) = true then some (msgOf (rdS b) (b.drop j)) else none
/-- the document's -/
def refParse (b : List UInt8) : Option Msg :=
  match (rdR b).T.2 with
  | none => none
  | some j => if (rdR b).A.1.getD 0 0 ≤ 5 ∧ (rdR b).A.1.getD 4 0 ≤ 3 ∧ may (msgOf (rdR b) (b.drop j)) = true ∧ bytes (msgOf (rdR b) (b.drop j)) = b then some (msgOf (rdR b) (b.drop j)) else none
theorem may_spec (m : Msg) (h : may m = true) : 1 ≤ m.kind ∧ m.kind ≤ 5 ∧ m.ents.length ≤ 16 ∧ m.image.length ≤ 262144 ∧ m.peers.length ≤ 7 ∧ (∀ e ∈ m.ents, mayE e = true) := by
  simp only [may, Bool.and_eq_true, decide_eq_true_eq, Bool.or_eq_true, List.isEmpty_iff, List.all_eq_true] at h
  obtain ⟨⟨⟨⟨⟨a1, a2⟩, a3⟩, a4⟩, a5⟩, a6⟩ := h
  refine ⟨a1, a2, a3, a4, ?_, a6⟩
  rcases a5 with h | h
  · rw [h]; simp
  · simp only [mayP, Bool.and_eq_true, decide_eq_true_eq] at h
    exact h.2
theorem flags_le (m : Msg) : flags m ≤ 3 := by unfold flags; split <;> split <;> omega
theorem h1_N (m : Msg) (hn : m.N) (h : may m = true) : ∀ n ∈ h1 m, N64 n := by
  obtain ⟨a1, a2, a3, a4, a5, a6⟩ := may_spec m h
  have := flags_le m
  obtain ⟨n1, n2, n3, n4, n5, n6, n7, n8, n9, n10⟩ := hn
  intro n hm
  simp only [h1, List.mem_cons, List.not_mem_nil, or_false] at hm
  rcases hm with rfl | rfl | rfl | rfl | rfl | rfl | rfl | rfl | rfl <;> first | assumption | (unfold N64; omega)
theorem h3_N (m : Msg) (hn : m.N) (h : may m = true) : ∀ n ∈ h3 m, N64 n := by
  obtain ⟨a1, a2, a3, a4, a5, a6⟩ := may_spec m h
  obtain ⟨n1, n2, n3, n4, n5, n6, n7, n8, n9, n10⟩ := hn
  intro n hm
  simp only [h3, List.mem_cons, List.not_mem_nil, or_false] at hm
  rcases hm with rfl | rfl | rfl <;> first | assumption | (unfold N64; omega)
theorem le9 (m : Msg) (hn : m.N) (h : may m = true) (k f e : Nat) (hk : 5 ≤ k) (hf : 3 ≤ f) (he : 16 ≤ e) : ∀ i, i < (h1 m).length → (h1 m).getD i 0 ≤ [k, any, any, any, f, any, any, any, e].getD i 0 := by
  obtain ⟨a1, a2, a3, a4, a5, a6⟩ := may_spec m h
  have := flags_le m
  obtain ⟨n1, n2, n3, n4, n5, n6, n7, n8, n9, n10⟩ := hn
  unfold N64 at *
  intro i hi
  simp only [h1, List.length_cons, List.length_nil] at hi
  match i, hi with
  | 0, _ => show m.kind.toNat ≤ k; omega
  | 1, _ => show m.frm ≤ any; unfold any; omega
  | 2, _ => show m.to ≤ any; unfold any; omega
  | 3, _ => show m.term ≤ any; unfold any; omega
  | 4, _ => show flags m ≤ f; omega
  | 5, _ => show m.index ≤ any; unfold any; omega
  | 6, _ => show m.logTerm ≤ any; unfold any; omega
  | 7, _ => show m.commit ≤ any; unfold any; omega
  | 8, _ => show m.ents.length ≤ e; omega
theorem le3 (m : Msg) (hn : m.N) (h : may m = true) (e : Nat) (he : 262144 ≤ e) : ∀ i, i < (h3 m).length → (h3 m).getD i 0 ≤ [any, any, e].getD i 0 := by
  obtain ⟨a1, a2, a3, a4, a5, a6⟩ := may_spec m h
  obtain ⟨n1, n2, n3, n4, n5, n6, n7, n8, n9, n10⟩ := hn
  unfold N64 at *
  intro i hi
  simp only [h3, List.length_cons, List.length_nil] at hi
  match i, hi with
  | 0, _ => show m.sidx ≤ any; unfold any; omega
  | 1, _ => show m.sterm ≤ any; unfold any; omega
  | 2, _ => show m.image.length ≤ e; omega
/-- the parts of what was put are read, whatever stands behind -/
theorem read (m : Msg) (hn : m.N) (h : may m = true) (x : List UInt8) (k f e p t : Nat) (hk : 5 ≤ k) (hf : 3 ≤ f) (he : 16 ≤ e) (hp : 7 ≤ p) (ht : 262144 ≤ t) :
    ∃ s1 s2 s3 s4, numsO (head m ++ x) [k, any, any, any, f, any, any, any, e] (some 0) = (h1 m, some s1) ∧ entsO (head m ++ x) m.ents.length (some s1) = (m.ents, some s2) ∧
      numO (head m ++ x) p (some s2) = (m.peers.length, some s3) ∧ peersO (head m ++ x) m.peers.length (some s3) = (m.peers, some s4) ∧ numsO (head m ++ x) [any, any, t] (some s4) = (h3 m, some (head m).length) := by
  obtain ⟨a1, a2, a3, a4, a5, a6⟩ := may_spec m h
  refine ⟨(numsB (h1 m)).length, (numsB (h1 m) ++ entsB m.ents).length, (numsB (h1 m) ++ entsB m.ents ++ put m.peers.length).length, (numsB (h1 m) ++ entsB m.ents ++ put m.peers.length ++ numsB m.peers).length, ?_, ?_, ?_, ?_, ?_⟩
  · have := numsO_put (h1 m) [k, any, any, any, f, any, any, any, e] [] (entsB m.ents ++ (put m.peers.length ++ (numsB m.peers ++ numsB (h3 m))) ++ x) rfl (h1_N m hn h) (le9 m hn h k f e hk hf he)
    simp only [List.nil_append, List.length_nil, Nat.zero_add] at this
    rw [← this]
    simp [head]
  · have := entsO_put m.ents (numsB (h1 m)) ((put m.peers.length ++ (numsB m.peers ++ numsB (h3 m))) ++ x) (fun e he => ⟨hn.ents e he, a6 e he⟩)
    rw [List.length_append, ← this]
    simp [head]
  · have := numO_put (numsB (h1 m) ++ entsB m.ents) ((numsB m.peers ++ numsB (h3 m)) ++ x) m.peers.length p (by unfold N64; omega) (by omega) _ rfl
    rw [List.length_append (as := numsB (h1 m) ++ entsB m.ents), ← this]
    simp [head]
  · have := peersO_put m.peers (numsB (h1 m) ++ entsB m.ents ++ put m.peers.length) (numsB (h3 m) ++ x) hn.peers
    rw [List.length_append (as := numsB (h1 m) ++ entsB m.ents ++ put m.peers.length), ← this]
    simp [head]
  · have := numsO_put (h3 m) [any, any, t] (numsB (h1 m) ++ entsB m.ents ++ put m.peers.length ++ numsB m.peers) x rfl (h3_N m hn h) (le3 m hn h t ht)
    have e1 : (head m).length = (numsB (h1 m) ++ entsB m.ents ++ put m.peers.length ++ numsB m.peers).length + (numsB (h3 m)).length := by simp [head]; omega
    rw [e1, ← this]
    simp [head]
theorem rdS_head (m : Msg) (hn : m.N) (h : may m = true) (x : List UInt8) : ∃ s1 s2 s3 s4, rdS (head m ++ x) = ⟨(h1 m, some s1), (m.ents, some s2), (m.peers.length, some s3), (m.peers, some s4), (h3 m, some (head m).length)⟩ := by
  obtain ⟨s1, s2, s3, s4, e1, e2, e3, e4, e5⟩ := read m hn h x 5 3 16 7 262144 (by omega) (by omega) (by omega) (by omega) (by omega)
  refine ⟨s1, s2, s3, s4, ?_⟩
  have g8 : (h1 m).getD 8 0 = m.ents.length := rfl
  unfold rdS
  simp only [e1, g8, e2, e3, e4, e5]
theorem rdR_head (m : Msg) (hn : m.N) (h : may m = true) (x : List UInt8) : ∃ s1 s2 s3 s4, rdR (head m ++ x) = ⟨(h1 m, some s1), (m.ents, some s2), (m.peers.length, some s3), (m.peers, some s4), (h3 m, some (head m).length)⟩ := by
  obtain ⟨s1, s2, s3, s4, e1, e2, e3, e4, e5⟩ := read m hn h x any any any any any (by decide) (by decide) (by decide) (by decide) (by decide)
  obtain ⟨a1, a2, a3, a4, a5, a6⟩ := may_spec m h
  refine ⟨s1, s2, s3, s4, ?_⟩
  have g8 : (h1 m).getD 8 0 = m.ents.length := rfl
  unfold rdR
  simp only [e1, g8, if_pos a3, e2, e3, if_pos a5, e4, e5]
theorem msgOf_head (m : Msg) (h : may m = true) (s1 s2 s3 s4 s5 : Option Nat) : msgOf ⟨(h1 m, s1), (m.ents, s2), (m.peers.length, s3), (m.peers, s4), (h3 m, s5)⟩ m.image = m := by
  obtain ⟨a1, -⟩ := may_spec m h
  obtain ⟨kind, frm, to, term, pre, ok, index, logTerm, commit, ents, peers, sidx, sterm, image⟩ := m
  simp only [msgOf, h1, h3, List.getD_cons_zero, List.getD_cons_succ, flags, Msg.mk.injEq, true_and, and_true]
  refine ⟨by simp only at a1; omega, ?_, ?_⟩ <;> cases pre <;> cases ok <;> simp
theorem parse_bytes (m : Msg) (hn : m.N) (h : may m = true) : parse (bytes m) = some m := by
  obtain ⟨s1, s2, s3, s4, e⟩ := rdS_head m hn h m.image
  unfold parse bytes
  rw [e]
  simp only
  rw [List.drop_left, msgOf_head m h, if_pos ⟨by rw [List.length_append]; show _ = m.image.length; omega, h⟩]
theorem refParse_bytes (m : Msg) (hn : m.N) (h : may m = true) : refParse (bytes m) = some m := by
  obtain ⟨s1, s2, s3, s4, e⟩ := rdR_head m hn h m.image
  obtain ⟨a1, a2, -⟩ := may_spec m h
  have hb : head m ++ m.image = bytes m := rfl
  unfold refParse
  rw [← hb, e]
  simp only
  rw [List.drop_left, msgOf_head m h, if_pos ⟨by show m.kind.toNat ≤ 5; omega, flags_le m, h, rfl⟩]
theorem take_next (b : List UInt8) {a j : Nat} (h : a ≤ j) : b.take j = b.take a ++ (b.drop a).take (j - a) := by
  rw [← List.take_add, show a + (j - a) = j by omega]
theorem nine {A : List Nat} (h : A.length = 9) : A = [A.getD 0 0, A.getD 1 0, A.getD 2 0, A.getD 3 0, A.getD 4 0, A.getD 5 0, A.getD 6 0, A.getD 7 0, A.getD 8 0] := by
  match A, h with
  | [_, _, _, _, _, _, _, _, _], _ => rfl
theorem three {A : List Nat} (h : A.length = 3) : A = [A.getD 0 0, A.getD 1 0, A.getD 2 0] := by
  match A, h with
  | [_, _, _], _ => rfl
theorem flags_of (x : Nat) (h : x ≤ 3) (m : Msg) (h1 : m.pre = decide (x % 2 = 1)) (h2 : m.ok = decide (x / 2 = 1)) : flags m = x := by
  unfold flags
  rw [h1, h2]
  have : x = 0 ∨ x = 1 ∨ x = 2 ∨ x = 3 := by omega
  rcases this with rfl | rfl | rfl | rfl <;> simp
/-- what was parsed stood there so -/
theorem chain (b : List UInt8) (A T Q : List Nat) (E : List Ent) (P j : Nat) (s1 s2 s3 s4 : Option Nat) (ms ts : List Nat) (p : Nat) (hms : ms.length = 9) (hts : ts.length = 3)
    (eA : numsO b ms (some 0) = (A, s1)) (eE : entsO b (A.getD 8 0) s1 = (E, s2)) (eP : numO b p s2 = (P, s3)) (eQ : peersO b P s3 = (Q, s4)) (eT : numsO b ts s4 = (T, some j))
    (_h5 : A.getD 0 0 ≤ 5) (h4 : A.getD 4 0 ≤ 3) (h2 : b.length - j = T.getD 2 0) :
    bytes (msgOf ⟨(A, s1), (E, s2), (P, s3), (Q, s4), (T, some j)⟩ (b.drop j)) = b ∧ (msgOf ⟨(A, s1), (E, s2), (P, s3), (Q, s4), (T, some j)⟩ (b.drop j)).N := by
  obtain ⟨a4, rfl, t1, t2, -, t3, t4, t5⟩ := numsO_some _ _ _ _ _ eT
  obtain ⟨a3, rfl, q1, q2, q3, q4, q5⟩ := peersO_some _ _ _ _ _ eQ
  obtain ⟨a2, rfl, p1, p2, -, p3, p4⟩ := numO_some _ _ _ _ _ eP
  obtain ⟨a1, rfl, e1, e2, e3, e4, e5⟩ := entsO_some _ _ _ _ _ eE
  obtain ⟨a0, e0, n1, n2, -, n3, n4, n5⟩ := numsO_some _ _ _ _ _ eA
  obtain rfl := Option.some.inj e0
  rw [hms] at n1
  rw [hts] at t1
  have hA := nine n1
  have hT := three t1
  have nm : ∀ i, i < 9 → N64 (A.getD i 0) := fun i hi => n2 _ (by rw [List.getD_eq_getElem?_getD, List.getElem?_eq_getElem (by omega)]; exact List.getElem_mem _)
  have tm : ∀ i, i < 3 → N64 (T.getD i 0) := fun i hi => t2 _ (by rw [List.getD_eq_getElem?_getD, List.getElem?_eq_getElem (by omega)]; exact List.getElem_mem _)
  refine ⟨?_, ⟨nm 1 (by omega), nm 2 (by omega), nm 3 (by omega), nm 5 (by omega), nm 6 (by omega), nm 7 (by omega), tm 0 (by omega), tm 1 (by omega), fun e he => (e2 e he).1, q2⟩⟩
  have g1 : h1 (msgOf ⟨(A, some a1), (E, some a2), (P, some a3), (Q, some a4), (T, some j)⟩ (b.drop j)) = A := by
    have hf := flags_of (A.getD 4 0) h4 (msgOf ⟨(A, some a1), (E, some a2), (P, some a3), (Q, some a4), (T, some j)⟩ (b.drop j)) rfl rfl
    unfold h1
    rw [hf, hA]
    simp only [msgOf, List.getD_cons_zero, List.getD_cons_succ, Int.toNat_natCast, e1]
  have g3 : h3 (msgOf ⟨(A, some a1), (E, some a2), (P, some a3), (Q, some a4), (T, some j)⟩ (b.drop j)) = T := by
    unfold h3
    rw [hT]
    simp only [msgOf, List.getD_cons_zero, List.getD_cons_succ, List.length_drop, h2]
  have hj : b.take j = numsB A ++ (entsB E ++ (put P ++ (numsB Q ++ numsB T))) := by
    rw [take_next b t4, take_next b q4, take_next b (Nat.le_of_lt p3), take_next b e4, t3, q3, p1, e3]
    rw [List.drop_zero, Nat.sub_zero] at n3
    rw [n3]
    simp
  unfold bytes head
  rw [g1, g3]
  show numsB A ++ (entsB E ++ (put Q.length ++ (numsB Q ++ numsB T))) ++ b.drop j = b
  rw [q1, ← hj, List.take_append_drop]
theorem parse_some (b : List UInt8) (m : Msg) (h : parse b = some m) : bytes m = b ∧ may m = true ∧ m.N := by
  unfold parse at h
  cases hT : (rdS b).T.2 with
  | none => rw [hT] at h; cases h
  | some j =>
    rw [hT] at h
    simp only at h
    split at h
    · rename_i hc
      obtain rfl := Option.some.inj h
      obtain ⟨a0, e0, n1, n2, n3, -⟩ := numsO_some [any, any, 262144] b (rdS b).Q.2 (rdS b).T.1 j (by rw [← hT]; rfl)
      have hq : (rdS b).Q.2 = some a0 := e0
      obtain ⟨a1, e1, -⟩ := peersO_some (rdS b).P.1 b (rdS b).P.2 (rdS b).Q.1 a0 (by rw [← hq]; rfl)
      obtain ⟨a2, e2, -⟩ := numO_some b 7 (rdS b).E.2 (rdS b).P.1 a1 (by rw [← e1]; rfl)
      obtain ⟨a3, e3, -⟩ := entsO_some ((rdS b).A.1.getD 8 0) b (rdS b).A.2 (rdS b).E.1 a2 (by rw [← e2]; rfl)
      obtain ⟨a4, -, m1, m2, m3, -⟩ := numsO_some [5, any, any, any, 3, any, any, any, 16] b (some 0) (rdS b).A.1 a3 (by rw [← e3]; rfl)
      have := chain b (rdS b).A.1 (rdS b).T.1 (rdS b).Q.1 (rdS b).E.1 (rdS b).P.1 j (rdS b).A.2 (rdS b).E.2 (rdS b).P.2 (rdS b).Q.2 [5, any, any, any, 3, any, any, any, 16] [any, any, 262144] 7 rfl rfl rfl rfl rfl rfl (by rw [← hT]; rfl)
        (m3 0 (by rw [m1]; decide)) (m3 4 (by rw [m1]; decide)) hc.1
      rw [← hT] at this
      exact ⟨this.1, hc.2, this.2⟩
    · cases h
/-- the document's parsing is the program's -/
theorem refParse_N (b : List UInt8) (m : Msg) (h : refParse b = some m) : bytes m = b ∧ may m = true ∧ m.N := by
  unfold refParse at h
  cases hT : (rdR b).T.2 with
  | none => rw [hT] at h; cases h
  | some j =>
    rw [hT] at h
    simp only at h
    split at h
    · rename_i hc
      obtain rfl := Option.some.inj h
      refine ⟨hc.2.2.2, hc.2.2.1, ?_⟩
      obtain ⟨a0, e0, n1, n2, n3, -⟩ := numsO_some [any, any, any] b (rdR b).Q.2 (rdR b).T.1 j (by rw [← hT]; rfl)
      have tm : ∀ i, i < 3 → N64 ((rdR b).T.1.getD i 0) := fun i hi => n2 _ (by rw [List.getD_eq_getElem?_getD, List.getElem?_eq_getElem (by rw [n1]; exact hi)]; exact List.getElem_mem _)
      have hQ : (∀ n ∈ (rdR b).Q.1, N64 n) ∧ ∃ a, (rdR b).P.2 = some a := by
        have hq : (rdR b).Q = if (rdR b).P.1 ≤ 7 then peersO b (rdR b).P.1 (rdR b).P.2 else ([], (rdR b).P.2) := rfl
        split at hq
        · obtain ⟨a1, e1, -, q2, -⟩ := peersO_some (rdR b).P.1 b (rdR b).P.2 (rdR b).Q.1 a0 (by rw [← hq, ← e0])
          exact ⟨q2, a1, e1⟩
        · rw [hq] at e0 ⊢
          exact ⟨by simp, a0, e0⟩
      obtain ⟨hQN, a1, e1⟩ := hQ
      obtain ⟨a2, e2, -⟩ := numO_some b any (rdR b).E.2 (rdR b).P.1 a1 (by rw [← e1]; rfl)
      have hE : (∀ e ∈ (rdR b).E.1, e.N) ∧ ∃ a, (rdR b).A.2 = some a := by
        have hq : (rdR b).E = if (rdR b).A.1.getD 8 0 ≤ 16 then entsO b ((rdR b).A.1.getD 8 0) (rdR b).A.2 else ([], (rdR b).A.2) := rfl
        split at hq
        · obtain ⟨a3, e3, -, q2, -⟩ := entsO_some ((rdR b).A.1.getD 8 0) b (rdR b).A.2 (rdR b).E.1 a2 (by rw [← hq, ← e2])
          exact ⟨fun e he => (q2 e he).1, a3, e3⟩
        · rw [hq] at e2 ⊢
          exact ⟨by simp, a2, e2⟩
      obtain ⟨hEN, a3, e3⟩ := hE
      obtain ⟨a4, -, m1, m2, -⟩ := numsO_some [any, any, any, any, any, any, any, any, any] b (some 0) (rdR b).A.1 a3 (by rw [← e3]; rfl)
      have nm : ∀ i, i < 9 → N64 ((rdR b).A.1.getD i 0) := fun i hi => m2 _ (by rw [List.getD_eq_getElem?_getD, List.getElem?_eq_getElem (by rw [m1]; exact hi)]; exact List.getElem_mem _)
      exact ⟨nm 1 (by omega), nm 2 (by omega), nm 3 (by omega), nm 5 (by omega), nm 6 (by omega), nm 7 (by omega), tm 0 (by omega), tm 1 (by omega), hEN, hQN⟩
    · cases h
theorem refParse_eq (b : List UInt8) : refParse b = parse b := by
  cases h : parse b with
  | some m =>
    obtain ⟨e1, e2, e3⟩ := parse_some b m h
    rw [← e1]
    exact refParse_bytes m e3 e2
  | none =>
    cases h2 : refParse b with
    | none => rfl
    | some m =>
      obtain ⟨e1, e2, e3⟩ := refParse_N b m h2
      rw [← e1, parse_bytes m e3 e2] at h
      cases h
/-- the same bytes begin no two messages -/
theorem bytes_prefix (m m' : Msg) (hn : m.N) (hm : may m = true) (hn' : m'.N) (hm' : may m' = true) (r : List UInt8) (h : bytes m' = bytes m ++ r) : r = [] ∧ m' = m := by
  obtain ⟨s1, s2, s3, s4, e⟩ := rdS_head m hn hm (m.image ++ r)
  obtain ⟨t1, t2, t3, t4, e'⟩ := rdS_head m' hn' hm' m'.image
  have hb : head m ++ (m.image ++ r) = head m' ++ m'.image := by
    have : head m ++ m.image ++ r = head m' ++ m'.image := h.symm
    rw [← this, List.append_assoc]
  rw [hb, e'] at e
  simp only [Rd.mk.injEq, Prod.mk.injEq, Option.some.injEq] at e
  obtain ⟨⟨f1, -⟩, ⟨f2, -⟩, -, ⟨f3, -⟩, f4, f5⟩ := e
  have hi := List.append_inj hb f5.symm
  have h3e : m'.image.length = m.image.length := by
    have := congrArg (fun l => l.getD 2 0) f4
    exact this
  have hr : r = [] := by
    have := congrArg List.length hi.2
    rw [List.length_append] at this
    exact List.eq_nil_of_length_eq_zero (by omega)
  subst hr
  rw [List.append_nil] at hi
  refine ⟨rfl, ?_⟩
  have p1 := parse_bytes m hn hm
  have p2 := parse_bytes m' hn' hm'
  rw [h, List.append_nil, p1] at p2
  exact (Option.some.inj p2).symm
theorem parse_more (m : Msg) (hn : m.N) (hm : may m = true) (r : List UInt8) : (parse (bytes m ++ r)).isSome = r.isEmpty := by
  cases r with
  | nil => rw [List.append_nil, parse_bytes m hn hm]; rfl
  | cons x r =>
    cases h : parse (bytes m ++ x :: r) with
    | none => rfl
    | some m' =>
      obtain ⟨e1, e2, e3⟩ := parse_some _ m' h
      obtain ⟨h0, -⟩ := bytes_prefix m m' hn hm e3 e2 (x :: r) e1
      cases h0
theorem parse_cut (m : Msg) (hn : m.N) (hm : may m = true) (c : Nat) (hc : c < (bytes m).length) : parse ((bytes m).take c) = none := by
  cases h : parse ((bytes m).take c) with
  | none => rfl
  | some m' =>
    obtain ⟨e1, e2, e3⟩ := parse_some _ m' h
    obtain ⟨h0, -⟩ := bytes_prefix m' m e3 e2 hn hm ((bytes m).drop c) (by rw [e1, List.take_append_drop])
    have := congrArg List.length h0
    rw [List.length_drop] at this
    simp at this
    omega
theorem bytes_inj (m m' : Msg) (hn : m.N) (hm : may m = true) (hn' : m'.N) (hm' : may m' = true) : bytes m = bytes m' ↔ m = m' :=
  ⟨fun h => (bytes_prefix m' m hn' hm' hn hm [] (by rw [List.append_nil]; exact h)).2, fun h => by rw [h]⟩
end Go.Proofs.Ytlcnjinabfbglaa.Rp
