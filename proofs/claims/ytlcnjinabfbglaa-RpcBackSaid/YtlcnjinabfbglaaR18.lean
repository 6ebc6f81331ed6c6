/- Parse: what holds on the way; appends of entries and numbers. -/
import Derived.Test.YtlcnjinabfbglaaR16
namespace Go.Proofs.Ytlcnjinabfbglaa
open Go.RowKit
/-- blocks of one type are left -/
def KT (T : TypeId) (A B : World) : Prop := ∀ (j : Nat) (cs : Array Value) (fr : Nat × Nat), A.heap[j]? = some (.cells cs T fr) → B.heap[j]? = some (.cells cs T fr)
theorem KT.refl (T : TypeId) (A : World) : KT T A A := fun _ _ _ h => h
theorem KT.trans {T : TypeId} {A B C : World} (h : KT T A B) (h2 : KT T B C) : KT T A C := fun j _ _ hj => h2 j _ _ (h j _ _ hj)
theorem KT.below {A B : World} (h : Below A.heap.size A B) (T : TypeId) : KT T A B := fun j _ _ hj => (h.block j (Array.getElem?_eq_some_iff.1 hj).1).trans hj
theorem KT.setRow {A : World} {b : Nat} {T : TypeId} {cs : Array Value} {fr : Nat × Nat} (h : A.heap[b]? = some (.cells cs T fr)) {S : TypeId} (hT : T ≠ S) (i : Nat) (u : Value) : KT S A (A.setCell ⟨b, i, none⟩ u) := fun j cs' fr' hj => by
  rw [Below.heap_setCell _ _ _ _ (show j ≠ b from ?_)]
  · exact hj
  · rintro rfl
    rw [h] at hj
    simp only [Option.some.injEq, Obj.cells.injEq] at hj
    exact hT hj.2.1
theorem KT.grown {A B : World} {N n sz : Nat} {E T : TypeId} {v : Value} {us : List Value} (h : A.ownsRow N E sz v n us) (hE : E ≠ T) (hg : A.grownBy B v.ownBlock) : KT T A B := fun j cs fr hj => by
  rw [hg.block j (Array.getElem?_eq_some_iff.1 hj).1 ?_]
  · exact hj
  · intro hob
    rcases h.2 with h0 | ⟨g, cap, cur, rfl, hb, hgg, h1⟩
    · rw [h0.1] at hob; cases hob
    · obtain rfl : j = g := by simpa [Value.ownBlock] using hob
      rw [hgg] at hj
      simp only [Option.some.injEq, Obj.cells.injEq] at hj
      exact hE hj.2.1
theorem KT.num {A B : World} {b : Nat} {t : TypeId} {v : Value} (h : KT t A B) (hN : NumAt A b t v) : NumAt B b t v := h _ _ _ hN
theorem KT.k5 {A B : World} (h : KT 5 A B) : K5 A B := h
theorem KT.own {A B : World} {N n sz : Nat} {E : TypeId} {v : Value} {us : List Value} (h : A.ownsRow N E sz v n us) (hk : KT E A B) : B.ownsRow N E sz v n us := by
  refine ⟨h.1, ?_⟩
  rcases h.2 with h0 | ⟨g, cap, cur, rfl, hb, hg, h1⟩
  · exact .inl h0
  · exact .inr ⟨g, cap, cur, rfl, hb, hk _ _ _ hg, h1⟩
/-- where the parser stands: its three cells -/
structure NS (N A D : Nat) (v : Value) (b : List UInt8) (s : Option Nat) (W : World) : Prop where
  box : NumAt W N 22 v
  at_ : ∃ a : Nat, a ≤ b.length ∧ NumAt W A 3 (.int .i64 (a : Int)) ∧ ∀ x, s = some x → x = a
  bad : NumAt W D 4 (.bool s.isNone)
theorem NS.kt {N A D : Nat} {v : Value} {b : List UInt8} {s : Option Nat} {W W' : World} (h : NS N A D v b s W) (h22 : KT 22 W W') (h3 : KT 3 W W') (h4 : KT 4 W W') : NS N A D v b s W' := by
  obtain ⟨a, h1, h2, hx⟩ := h.at_
  exact ⟨h22.num h.box, ⟨a, h1, h3.num h2, hx⟩, h4.num h.bad⟩
theorem NS.keep {N A D : Nat} {v : Value} {b : List UInt8} {s : Option Nat} {W W' : World} (h : NS N A D v b s W) (hb : Below W.heap.size W W') : NS N A D v b s W' := h.kt (KT.below hb _) (KT.below hb _) (KT.below hb _)
set_option maxRecDepth 100000 in
set_option maxHeartbeats 4000000 in
theorem num1_any (N A D : Nat) (v : Value) (b : List UInt8) (s : Option Nat) (most : Nat) (w : World) (hS : NS N A D v b s w) (hB : Bts w v b) (hl : b.length ≤ 1000000) (hAD : A ≠ D) (hM : Nat) (hMA : hM ≤ A) (hMD : hM ≤ D) :
    Calls Try.prog 60 #[u64 most, .pointer (some ⟨N, 0, none⟩), .pointer (some ⟨A, 0, none⟩), .pointer (some ⟨D, 0, none⟩)] w fun r w' => r = .returned (u64 (Rp.numO b most s).1) ∧ NS N A D v b (Rp.numO b most s).2 w' ∧ Below hM w w' ∧ ∀ T : TypeId, T ≠ 3 → T ≠ 4 → KT T w w' := by
  obtain ⟨ao, cap, rfl, -, -, -⟩ := hB.form
  obtain ⟨a, ha, hat, hsa⟩ := hS.at_
  have hbox := hS.box
  have hbad := hS.bad
  have c1 := hbox.cell
  have c2 := hat.cell
  have c3 := hbad.cell
  have f3 := hbad.froz
  have t1 := take_any _ b a w hB ha (by omega)
  -- what the stores leave
  have h1 : ∀ q, NumAt (w.setCell ⟨D, 0, none⟩ (.bool q)) D 4 (.bool q) := fun q => hbad.set _
  have h2 : ∀ q, NumAt (w.setCell ⟨D, 0, none⟩ (.bool q)) A 3 (.int .i64 (a : Int)) := fun q => hat.other _ hAD _
  have h3 : ∀ q, Below hM w (w.setCell ⟨D, 0, none⟩ (.bool q)) := fun q => (Below.refl _ _).setCell (p := ⟨D, 0, none⟩) hMD _
  have h4 : ∀ q T, T ≠ 3 → T ≠ 4 → KT T w (w.setCell ⟨D, 0, none⟩ (.bool q)) := fun q T _ ht => KT.setRow hbad (Ne.symm ht) 0 _
  have hbadO : ∀ S : Option Nat, S = none → ∀ r w', r = Ending.returned (.int .u64 0) → w' = w.setCell ⟨D, 0, none⟩ (.bool true) → r = .returned (u64 (0, S).1) ∧ NS N A D (.slice ao b.length cap) b (0, S).2 w' ∧ Below hM w w' ∧ ∀ T : TypeId, T ≠ 3 → T ≠ 4 → KT T w w' := by
    rintro S rfl r w' rfl rfl
    exact ⟨rfl, ⟨(h4 true 22 (by decide) (by decide)).num hbox, ⟨a, ha, h2 true, fun x hx => by cases hx⟩, h1 true⟩, h3 true, h4 true⟩
  cases s with
  | none =>
    simp only [Option.isNone_none] at c3 hbad
    have hR := hbadO none rfl
    show Calls Try.prog 60 _ w fun r w' => r = .returned (u64 (0, (none : Option Nat)).1) ∧ NS N A D (.slice ao b.length cap) b (0, (none : Option Nat)).2 w' ∧ Below hM w w' ∧ ∀ T : TypeId, T ≠ 3 → T ≠ 4 → KT T w w'
    have HR := Lib.hid hR
    have fc := (h1 true).cell
    obtain ⟨n, j, e, htv⟩ : ∃ n j e : Int, takeV (Pk.take b a) = .tuple #[.int .u64 n, .int .i64 j, .int .i64 e] := by
      cases Pk.take b a with
      | none => exact ⟨0, 0, 4, rfl⟩
      | some p => exact ⟨p.1, p.2, 0, rfl⟩
    rw [htv] at t1
    clear h1 h2 h3 h4 hbadO hR hS hat hsa hbox htv
    go_enter Try.func60, Try.ntmps60
    go_wp2_with (go_at_call 26; refine t1.mono ?_; rintro e w1 ⟨rfl, rfl⟩)
    all_goals go_ret
    all_goals exact HR.out _ _ rfl rfl
  | some a' =>
    obtain rfl := hsa a' rfl
    simp only [Option.isNone_some] at c3 hbad
    unfold Rp.numO
    simp only
    cases ht : Pk.take b a' with
    | none =>
      simp only
      rw [ht] at t1
      simp only [takeV] at t1
      have HR := Lib.hid (hbadO none rfl)
      have fc := (h1 true).cell
      clear h1 h2 h3 h4 hbadO hS hat hsa hbox ht
      go_enter Try.func60, Try.ntmps60
      go_wp2_with (go_at_call 26; refine t1.mono ?_; rintro e w1 ⟨rfl, rfl⟩)
      all_goals go_ret
      all_goals exact HR.out _ _ rfl rfl
    | some p =>
      obtain ⟨n, j⟩ := p
      simp only
      rw [ht] at t1
      simp only [takeV] at t1
      have hj := (Pk.take_le b a' n j ht ha).2
      by_cases hm : n ≤ most
      · rw [if_pos hm]
        have hm' : ¬ (most : Int) < (n : Int) := by omega
        have fc := (h1 false).cell
        have fa := (h2 false).froz
        have fa2 := (h2 false).cell
        have hfin : NS N A D (.slice ao b.length cap) b (some j) ((w.setCell ⟨D, 0, none⟩ (.bool false)).setCell ⟨A, 0, none⟩ (.int .i64 (j : Int))) ∧ Below hM w ((w.setCell ⟨D, 0, none⟩ (.bool false)).setCell ⟨A, 0, none⟩ (.int .i64 (j : Int))) ∧ ∀ T : TypeId, T ≠ 3 → T ≠ 4 → KT T w ((w.setCell ⟨D, 0, none⟩ (.bool false)).setCell ⟨A, 0, none⟩ (.int .i64 (j : Int))) := by
          have hK : ∀ T : TypeId, T ≠ 3 → T ≠ 4 → KT T w ((w.setCell ⟨D, 0, none⟩ (.bool false)).setCell ⟨A, 0, none⟩ (.int .i64 (j : Int))) := fun T e3 e4 => (h4 false T e3 e4).trans (KT.setRow (h2 false) (Ne.symm e3) 0 _)
          exact ⟨⟨(hK 22 (by decide) (by decide)).num hbox, ⟨j, hj, (h2 false).set _, fun x hx => (Option.some.inj hx).symm⟩, (h1 false).other _ (Ne.symm hAD) _⟩, (h3 false).setCell (p := ⟨A, 0, none⟩) hMA _, hK⟩
        have HF := Lib.hid hfin
        clear h1 h2 h3 h4 hbadO hS hat hsa hbox ht hfin hm
        go_enter Try.func60, Try.ntmps60
        go_wp2_with (go_at_call 26; refine t1.mono ?_; rintro e w1 ⟨rfl, rfl⟩)
        all_goals go_ret
        all_goals exact ⟨rfl, HF.out⟩
      · rw [if_neg hm]
        have hm' : (most : Int) < (n : Int) := by omega
        have HR := Lib.hid (hbadO none rfl)
        have fc := (h1 true).cell
        clear h1 h2 h3 h4 hbadO hS hat hsa hbox ht hm
        go_enter Try.func60, Try.ntmps60
        go_wp2_with (go_at_call 26; refine t1.mono ?_; rintro e w1 ⟨rfl, rfl⟩)
        all_goals go_ret
        all_goals exact HR.out _ _ rfl rfl
set_option maxRecDepth 100000 in
set_option maxHeartbeats 1000000 in
theorem clone_any (v : Value) (l : List UInt8) (w : World) (hB : Bts w v l) (hl : l.length ≤ 1000000) : Calls Try.prog 62 #[v] w fun r w' => ∃ v', r = .returned v' ∧ Bts w' v' l ∧ Below w.heap.size w w' := by
  have q22 : ∀ (w : World) (a : Option Addr) (n c n' c' : Nat), (binOp .eql 22 (.slice a n c) (.slice none n' c')).run Try.prog w = .ok (.bool a.isNone) w := fun w a n c n' c' => Lib.run_eql_slice_nil w _ _ a n c n' c' Try.underlying22
  obtain ⟨ao, cap, rfl, h1, h2, h3⟩ := hB.form
  cases ao with
  | none =>
    obtain rfl := h3 rfl
    have h0 : l.length = 0 := by omega
    obtain rfl := List.eq_nil_of_length_eq_zero h0
    clear h0 h1 h2 h3 hl
    go_enter Try.func62, Try.ntmps62
    go_wp2_with fail
    go_ret
    exact ⟨_, rfl, Sli.nil _, Below.refl _ _⟩
  | some ad =>
    have hB1 := hB.keep (Below.al (Below.refl w.heap.size w) (.cells #[] 5))
    go_enter Try.func62, Try.ntmps62
    go_wp2_with (at_builtin; refine wpList_appB (w.alloc (.cells #[] 5)) rfl _ _ rfl w.heap.size (own_lit0 w) hB1 rfl rfl (by simp; omega) (by simp) ?_; intro ao3 ac3 w3 ho3 hg3 hb3)
    go_ret
    exact ⟨_, rfl, by simpa using ho3.bts, ((Below.refl _ _).alloc (Nat.le_refl _) _).trans hb3⟩
end Go.Proofs.Ytlcnjinabfbglaa
namespace Go.Proofs.Ytlcnjinabfbglaa
open Go.RowKit
abbrev zC : Array Value := #[.int .i64 0, .int .u64 0, .int .u64 0, .int .u64 0, .bool false, .bool false, .int .u64 0, .int .u64 0, .int .u64 0, .slice none 0 0, .slice none 0 0, .int .u64 0, .int .u64 0, .slice none 0 0]
abbrev noMsg : Value := .agg zC
/-- a block of a message -/
def Mr (W : World) (M : Nat) (a : Array Value) : Prop := W.heap[M]? = some (.cells a 62 (0, 0))
theorem Mr.lt {W : World} {M : Nat} {a : Array Value} (h : Mr W M a) : M < W.heap.size := (Array.getElem?_eq_some_iff.1 h).1
theorem Mr.kt {W W' : World} {M : Nat} {a : Array Value} (h : Mr W M a) (hk : KT 62 W W') : Mr W' M a := hk _ _ _ h
theorem Mr.keepAt {W W' : World} {M B : Nat} {a : Array Value} (h : Mr W M a) (hb : Below B W W') (hl : M < B) : Mr W' M a := (hb.block _ hl).trans h
theorem Mr.at {W : World} {M : Nat} {a : Array Value} (h : Mr W M a) (i : Nat) (u : Value) (hi : a[i]? = some u) : W.cell? ⟨M, i, none⟩ = some u := by
  rw [cell_of_row W M i _ 62 (0, 0) h]; exact hi
theorem Mr.froz {W : World} {M : Nat} {a : Array Value} (h : Mr W M a) (i : Nat) : W.frozen? ⟨M, i, none⟩ = false := frozen_of_row W M i _ 62 h
theorem Mr.set {W : World} {M : Nat} {a : Array Value} (h : Mr W M a) (i : Nat) (u : Value) : Mr (W.setCell ⟨M, i, none⟩ u) M (a.setIfInBounds i u) := heap_setCell_same W M i _ 62 u h
theorem Mr.other {W : World} {M : Nat} {a : Array Value} (h : Mr W M a) (p : Addr) (hp : M ≠ p.block) (u : Value) : Mr (W.setCell p u) M a := by
  unfold Mr; rw [Below.heap_setCell _ _ _ _ hp]; exact h
/-- what the parser has, ahead of the message -/
structure PS (N : Nat) (w : World) (v : Value) (b : List UInt8) (s : Option Nat) (W : World) : Prop where
  ns : NS N (N + 2) (N + 3) v b s W
  res : Mr W (N + 1) zC
  bel : Below N w W
theorem PS.num {N : Nat} {w W W' : World} {v : Value} {b : List UInt8} {s s' : Option Nat} (h : PS N w v b s W) (hn : NS N (N + 2) (N + 3) v b s' W') (hb : Below (N + 2) W W') (hk : ∀ T : TypeId, T ≠ 3 → T ≠ 4 → KT T W W') : PS N w v b s' W' :=
  ⟨hn, h.res.kt (hk 62 (by decide) (by decide)), h.bel.trans (hb.mono (by omega))⟩
theorem PS.above {N : Nat} {w W W' : World} {v : Value} {b : List UInt8} {s : Option Nat} (h : PS N w v b s W) (hb : Below (N + 4) W W') : PS N w v b s W' := by
  obtain ⟨a, h1, h2, hx⟩ := h.ns.at_
  refine ⟨⟨h.ns.box.keepAt hb (by omega), ⟨a, h1, h2.keepAt hb (by omega), hx⟩, h.ns.bad.keepAt hb (by omega)⟩, h.res.keepAt hb (by omega), h.bel.trans (hb.mono (by omega))⟩
theorem PS.lt {N : Nat} {w W : World} {v : Value} {b : List UInt8} {s : Option Nat} (h : PS N w v b s W) : N + 3 < W.heap.size := h.ns.bad.lt
theorem PS.setM {N M i : Nat} {w W : World} {v : Value} {b : List UInt8} {s : Option Nat} (h : PS N w v b s W) (hM : N + 4 ≤ M) (u : Value) : PS N w v b s (W.setCell ⟨M, i, none⟩ u) :=
  h.above (((Below.refl M W).setCell (p := ⟨M, i, none⟩) (Nat.le_refl _) u).mono hM)
theorem PS.keep {N : Nat} {w W W' : World} {v : Value} {b : List UInt8} {s : Option Nat} (h : PS N w v b s W) (hb : Below W.heap.size W W') : PS N w v b s W' := h.above (hb.mono h.lt)
/-- a cell of a row is set: what other row types there are, is left -/
theorem KT.setM {W : World} {M : Nat} {a : Array Value} (h : Mr W M a) {T : TypeId} (hT : T ≠ 62) (i : Nat) (u : Value) : KT T W (W.setCell ⟨M, i, none⟩ u) := KT.setRow h (Ne.symm hT) i u
/-- entries that were read: a row of the call's own, the bodies in blocks of bytes -/
structure EE (B : Nat) (W : World) (ev : Value) (xs : List EV) : Prop where
  own : W.ownsRow B 79 3 ev xs.length (xs.flatMap evC)
  bts : ∀ x ∈ xs, Bt W x.v x.body ∧ x.ent.N
theorem EE.kt {B : Nat} {W W' : World} {ev : Value} {xs : List EV} (h : EE B W ev xs) (h79 : KT 79 W W') (h5 : KT 5 W W') : EE B W' ev xs :=
  ⟨KT.own h.own h79, fun x hx => ⟨(h.bts x hx).1.k5 h5, (h.bts x hx).2⟩⟩
theorem EE.nil (B : Nat) (W : World) : EE B W (.slice none 0 0) [] := ⟨World.ownsRow_nil _ _ _ _, by simp⟩
theorem EE.ents {B : Nat} {W : World} {ev : Value} {xs : List EV} (h : EE B W ev xs) : Ents W ev xs :=
  ⟨Row.own evC_len h.own (by decide), fun x hx => ⟨(h.bts x hx).1.1, (h.bts x hx).2⟩⟩
/-- peers that were read -/
structure PP (B : Nat) (W : World) (pv : Value) (ns : List Nat) : Prop where
  own : W.ownsRow B 30 1 pv ns.length (ns.map u64)
  n64 : ∀ n ∈ ns, Rp.N64 n
theorem PP.kt {B : Nat} {W W' : World} {pv : Value} {ns : List Nat} (h : PP B W pv ns) (h30 : KT 30 W W') : PP B W' pv ns := ⟨KT.own h.own h30, h.n64⟩
theorem PP.nil (B : Nat) (W : World) : PP B W (.slice none 0 0) [] := ⟨World.ownsRow_nil _ _ _ _, by simp⟩
theorem PP.nums {B : Nat} {W : World} {pv : Value} {ns : List Nat} (h : PP B W pv ns) : Nums W pv ns := ⟨Sli.own h.own, h.n64⟩
theorem Try.info79 : (Try.prog.info? 79).map (fun i => (i.zero, i.size, i.bytes)) = some (some noEnt, 3, 40) := by kernel_rfl
theorem Try.info30 : (Try.prog.info? 30).map (fun i => (i.zero, i.size, i.bytes)) = some (some (.int .u64 0), 1, 8) := by kernel_rfl
/-- APPEND of one entry that lies in a block of its own -/
theorem wpList_appE (w : World) {ops : Array Oper} {rest : List Oper} {o : Oper} {a : Act} {Q : Exit → Act → World → Prop} (hgd : o.guard = none) (s x : Operand)
    (ho : o.op = .call { callee := .builtin .append, args := #[s, x], argTypes := #[57, 57] })
    (B : Nat) {v : Value} {xs : List EV} (h : EE B w v xs) (e : EV) (he : Bt w e.v e.body) (hen : e.ent.N) (vo : Option Addr) (vn vc : Nat) (hev : e.v = .slice vo vn vc) (hs : a.eval s = v) (hx : a.eval x = .slice (some ⟨w.heap.size, 0, none⟩) 1 1)
    (hsmall : xs.length + 1 ≤ 1000000) (hbase : B ≤ w.heap.size)
    (hK : ∀ v' w', EE B w' v' (xs ++ [e]) → Below B w w' → (∀ T : TypeId, T ≠ 79 → KT T w w') → wpList Try.prog ops Q rest (a.put o.dst v') w') : wpList Try.prog ops Q (o :: rest) a (w.alloc (.cells #[u64 e.idx, u64 e.term, .slice vo vn vc] 79)) := by
  obtain ⟨i, hi, hz, hszz, hbytes⟩ := info_parts Try.info79
  have hown := h.own
  have hblk : ∀ k, v.ownBlock = some k → B ≤ k := fun k hk => (hown.lt k hk).1
  have h1 : ∀ u ∈ [u64 e.idx, u64 e.term, .slice vo vn vc], u.oneCell' = true := by
    intro u hu
    simp only [List.mem_cons, List.not_mem_nil, or_false] at hu
    rcases hu with rfl | rfl | rfl <;> rfl
  have hal := Below.al (Below.refl w.heap.size w) (.cells #[u64 e.idx, u64 e.term, .slice vo vn vc] 79)
  refine wpList_append_own (w.alloc (.cells #[u64 e.idx, u64 e.term, .slice vo vn vc] 79)) hgd s x 57 ho B 79 i noEnt 3 40 Try.underlying57 hi hz hszz hbytes rfl (by decide) v xs.length (xs.flatMap evC) hs (hown.alloc _) ⟨w.heap.size, 0, none⟩ 1 1 [u64 e.idx, u64 e.term, .slice vo vn vc] hx rfl ?_ h1 (by unfold maxLen; omega) ?_ (by simp; omega) ?_
  · intro j u hj
    rw [Addr.add_lit, World.cell?_alloc_at _ _ _ _ rfl]
    simpa using hj
  · omega
  · intro v' w' h2 h3 _
    have hkt : ∀ T : TypeId, T ≠ 79 → KT T w w' := fun T hT => (KT.below hal T).trans (KT.grown (hown.alloc _) (Ne.symm hT) h3)
    refine hK v' w' ⟨?_, ?_⟩ (((Below.refl B w).alloc hbase _).trans ((Below.refl _ _).grown h3 (by simp; omega) hblk)) hkt
    · have e1 : (xs ++ [e]).flatMap evC = xs.flatMap evC ++ [u64 e.idx, u64 e.term, .slice vo vn vc] := by simp [evC, hev]
      rw [e1, List.length_append]
      exact h2
    · intro y hy
      rcases List.mem_append.1 hy with hy | hy
      · exact ⟨(h.bts y hy).1.k5 (hkt 5 (by decide)), (h.bts y hy).2⟩
      · obtain rfl : y = e := by simpa using hy
        exact ⟨he.k5 (hkt 5 (by decide)), hen⟩
/-- APPEND of one number that lies in a block of its own, in a drawn region -/
theorem wp_appP (w : World) {o : Oper} {a : Act} {K : Act → World → Prop} {Q : Exit → Act → World → Prop} (s x : Operand)
    (ho : o.op = .call { callee := .builtin .append, args := #[s, x], argTypes := #[58, 58] })
    (B : Nat) {v : Value} {ns : List Nat} (h : PP B w v ns) (n : Nat) (hn : Rp.N64 n) (hs : a.eval s = v) (hx : a.eval x = .slice (some ⟨w.heap.size, 0, none⟩) 1 1)
    (hsmall : ns.length + 1 ≤ 1000000) (hbase : B ≤ w.heap.size)
    (hK : ∀ v' w', PP B w' v' (ns ++ [n]) → Below B w w' → (∀ T : TypeId, T ≠ 30 → KT T w w') → K (a.put o.dst v') w') : o.wp Try.prog a (w.alloc (.cells #[u64 n] 30)) K Q := by
  have hown := h.own
  have hal := Below.al (Below.refl w.heap.size w) (.cells #[u64 n] 30)
  refine wp_app (w.alloc (.cells #[u64 n] 30)) s x 58 ho B 30 (.int .u64 0) 8 Try.underlying58 Try.info30 (by decide) rfl (hown.alloc _) hs (some ⟨w.heap.size, 0, none⟩) 1 1 [u64 n] hx (fun h => by cases h) rfl ?_ (by intro u hu; rw [List.mem_singleton] at hu; subst hu; rfl) (by omega) (by simp; omega) ?_
  · intro j u hu
    refine ⟨_, rfl, ?_⟩
    rw [Addr.add_lit, World.cell?_alloc_at _ _ _ _ rfl]
    simpa using hu
  · intro v' w' h2 h3 h4
    have hkt : ∀ T : TypeId, T ≠ 30 → KT T w w' := fun T hT => (KT.below hal T).trans (KT.grown (hown.alloc _) (Ne.symm hT) h3)
    refine hK v' w' ⟨?_, ?_⟩ (((Below.refl B w).alloc hbase _).trans h4) hkt
    · rw [List.map_append, List.length_append]
      exact h2
    · intro y hy
      rcases List.mem_append.1 hy with hy | hy
      · exact h.n64 y hy
      · obtain rfl : y = n := by simpa using hy
        exact hn
/-- a number that is taken, in the parser -/
theorem num_ps (N : Nat) (v : Value) (b : List UInt8) (s s' : Option Nat) (most n : Nat) (w W : World) (hP : PS N w v b s W) (hB : ∀ W', Below N w W' → Bts W' v b) (hl : b.length ≤ 1000000) (he : Rp.numO b most s = (n, s')) :
    Calls Try.prog 60 #[u64 most, .pointer (some ⟨N, 0, none⟩), .pointer (some ⟨N + 2, 0, none⟩), .pointer (some ⟨N + 3, 0, none⟩)] W fun r W' => r = .returned (u64 n) ∧ PS N w v b s' W' ∧ Below (N + 2) W W' ∧ ∀ T : TypeId, T ≠ 3 → T ≠ 4 → KT T W W' := by
  refine (num1_any N (N + 2) (N + 3) v b s most W hP.ns (hB W hP.bel) hl (by omega) (N + 2) (Nat.le_refl _) (by omega)).mono ?_
  rintro r W' ⟨h1, h2, h3, h4⟩
  rw [he] at h1 h2
  exact ⟨h1, hP.num h2 h3 h4, h3, h4⟩
theorem numO_zero (b : List UInt8) (m : Nat) (s s' : Option Nat) (n : Nat) (h : Rp.numO b m s = (n, s')) (hs : s' = none) : n = 0 := by
  subst hs
  cases s with
  | none => simp [Rp.numO] at h; omega
  | some a =>
    unfold Rp.numO at h
    simp only at h
    cases ht : Pk.take b a with
    | none => rw [ht] at h; simp at h; omega
    | some p =>
      obtain ⟨x, j⟩ := p
      rw [ht] at h
      simp only at h
      split at h
      · simp at h
      · simp at h; omega
theorem numO_le' (b : List UInt8) (m : Nat) (s s' : Option Nat) (n : Nat) (h : Rp.numO b m s = (n, s')) : n ≤ m := by
  have := Rp.numO_le b m s
  rw [h] at this
  exact this
theorem PS.bad_ {N : Nat} {w W : World} {v : Value} {b : List UInt8} {s : Option Nat} (h : PS N w v b s W) (s' : Option Nat) (hs : s' = none ∨ s' = s) : PS N w v b s' (W.setCell ⟨N + 3, 0, none⟩ (.bool s'.isNone)) := by
  obtain ⟨a, h1, h2, hx⟩ := h.ns.at_
  refine ⟨⟨h.ns.box.other _ (by simp only; omega) _, ⟨a, h1, h2.other _ (by simp only; omega) _, ?_⟩, h.ns.bad.set _⟩, h.res.other _ (by simp only; omega) _, h.bel.setCell (p := ⟨N + 3, 0, none⟩) (by simp only; omega) _⟩
  rcases hs with rfl | rfl
  · intro x hx'; cases hx'
  · exact hx
theorem PS.step {N : Nat} {w W : World} {v : Value} {b : List UInt8} {a j : Nat} (h : PS N w v b (some a) W) (hj : j ≤ b.length) : PS N w v b (some j) (W.setCell ⟨N + 2, 0, none⟩ (.int .i64 (j : Int))) := by
  obtain ⟨a0, h1, h2, hx⟩ := h.ns.at_
  exact ⟨⟨h.ns.box.other _ (by simp only; omega) _, ⟨j, hj, h2.set _, fun x hx => (Option.some.inj hx).symm⟩, h.ns.bad.other _ (by simp only; omega) _⟩, h.res.other _ (by simp only; omega) _, h.bel.setCell (p := ⟨N + 2, 0, none⟩) (by simp only; omega) _⟩
theorem PS.badAt {N : Nat} {w W : World} {v : Value} {b : List UInt8} {s : Option Nat} (h : PS N w v b s W) : NumAt W (N + 3) 4 (.bool s.isNone) := h.ns.bad
/-- where the parser begins -/
theorem PS.start (w : World) (v : Value) (b : List UInt8) : PS w.heap.size w v b (some 0) ((((w.alloc (.cells #[v] 22)).alloc (.cells zC 62)).alloc (.cells #[.int .i64 0] 3)).alloc (.cells #[.bool false] 4)) := by
  have a1 := Below.al (Below.refl w.heap.size w) (.cells #[v] 22)
  have a2 := Below.al (Below.refl _ (w.alloc (.cells #[v] 22))) (.cells zC 62)
  have a3 := Below.al (Below.refl _ ((w.alloc (.cells #[v] 22)).alloc (.cells zC 62))) (.cells #[.int .i64 0] 3)
  have a4 := Below.al (Below.refl _ (((w.alloc (.cells #[v] 22)).alloc (.cells zC 62)).alloc (.cells #[.int .i64 0] 3))) (.cells #[.bool false] 4)
  have b1 : NumAt (w.alloc (.cells #[v] 22)) w.heap.size 22 v := NumAt.mk _ _ _ _ rfl
  have b2 : Mr ((w.alloc (.cells #[v] 22)).alloc (.cells zC 62)) (w.heap.size + 1) zC := new_at _ _ _ (by simp)
  have b3 : NumAt (((w.alloc (.cells #[v] 22)).alloc (.cells zC 62)).alloc (.cells #[.int .i64 0] 3)) (w.heap.size + 2) 3 (.int .i64 0) := NumAt.mk _ _ _ _ (by simp)
  have b4 : NumAt ((((w.alloc (.cells #[v] 22)).alloc (.cells zC 62)).alloc (.cells #[.int .i64 0] 3)).alloc (.cells #[.bool false] 4)) (w.heap.size + 3) 4 (.bool false) := NumAt.mk _ _ _ _ (by simp)
  exact ⟨⟨((b1.keep a2).keep a3).keep a4, ⟨0, Nat.zero_le _, b3.keep a4, fun x hx => (Option.some.inj hx).symm⟩, b4⟩, (b2.kt (KT.below a3 _)).kt (KT.below a4 _), Below.call (Below.call (Below.call a1 a2) a3) a4⟩
end Go.Proofs.Ytlcnjinabfbglaa
