/- What WatchPlays keeps in memory; what is of one type lies not where something of another type lies. -/
import Derived.Test.YtaepkmjlkenenaaF28
namespace Go.Proofs.Ytaepkmjlkenenaa
open Go.RowKit

def Ty (W : World) (k : Nat) (T : TypeId) : Prop := ∃ cs z, W.heap[k]? = some (.cells cs T z)
theorem Ty.ne {W : World} {k k' : Nat} {T T' : TypeId} (h : Ty W k T) (h' : Ty W k' T') (hT : T ≠ T') : k ≠ k' := by
  rintro rfl
  obtain ⟨cs, z, h1⟩ := h
  obtain ⟨cs', z', h2⟩ := h'
  rw [h1] at h2
  exact hT (by simpa using (Obj.cells.inj (Option.some.inj h2)).2.1)
theorem Ty.lt {W : World} {k : Nat} {T : TypeId} (h : Ty W k T) : k < W.heap.size := by
  obtain ⟨cs, z, h1⟩ := h
  exact (Array.getElem?_eq_some_iff.1 h1).1
theorem NumAt.ty {W : World} {b : Nat} {T : TypeId} {v : Value} (h : NumAt W b T v) : Ty W b T := ⟨_, _, h⟩
theorem WV.ty {W : World} {b : Nat} {v : Value} {l : List Fi.St} {last : Int} (h : WV W b v l last) : Ty W b 83 := ⟨_, _, h.head⟩
theorem row_ty {W : World} {B : Nat} {E : TypeId} {sz : Nat} {v : Value} {n : Nat} {us : List Value} (h : W.ownsRow B E sz v n us) {k : Nat} (hk : v.ownBlock = some k) : Ty W k E := by
  rcases h.2 with h0 | ⟨g, cap, cur, rfl, hb, hg, h1⟩
  · rw [h0.1] at hk; cases hk
  · obtain rfl : g = k := by simpa [Value.ownBlock] using hk
    exact ⟨_, _, hg⟩
/-- nothing is written to but what is of one of these types -/
def OffT (Ts : List TypeId) (W W' : World) : Prop := Off (fun k => ∃ T ∈ Ts, Ty W k T) W W'
theorem notT {Ts : List TypeId} {W : World} {k : Nat} {T : TypeId} (h : Ty W k T) (hT : T ∉ Ts) : ¬ ∃ T' ∈ Ts, Ty W k T' := fun ⟨_, h1, h2⟩ => Ty.ne h2 h (fun e => hT (e ▸ h1)) rfl
theorem OffT.num {Ts : List TypeId} {W W' : World} (h : OffT Ts W W') {b : Nat} {T : TypeId} {v : Value} (hN : NumAt W b T v) (hT : T ∉ Ts) : NumAt W' b T v := Off.num h hN (notT hN.ty hT)
theorem OffT.row {Ts : List TypeId} {W W' : World} (h : OffT Ts W W') {B : Nat} {E : TypeId} {sz : Nat} {v : Value} {n : Nat} {us : List Value} (hr : W.ownsRow B E sz v n us) (hT : E ∉ Ts) : W'.ownsRow B E sz v n us := own_off hr h (fun _ hk => notT (row_ty hr hk) hT)
theorem OffT.wv {Ts : List TypeId} {W W' : World} (h : OffT Ts W W') {b : Nat} {v : Value} {l : List Fi.St} {last : Int} (hw : WV W b v l last) (h1 : 83 ∉ Ts) (h2 : 88 ∉ Ts) : WV W' b v l last :=
  ⟨by rw [Off.same h b hw.lt (notT hw.ty h1)]; exact hw.head, h.row hw.own h2⟩
theorem OffT.trans {Ts Ts' : List TypeId} {A B C : World} (h1 : OffT Ts A B) (h2 : OffT Ts' B C) (hs : ∀ T ∈ Ts', T ∈ Ts) : OffT Ts A C := by
  refine ⟨Nat.le_trans h1.size h2.size, fun k hk hn => ?_⟩
  have he := Off.same h1 k hk hn
  rw [Off.same h2 k (Nat.lt_of_lt_of_le hk h1.size) (fun ⟨T, hT, cs, z, hc⟩ => hn ⟨T, hs T hT, cs, z, by rw [← he]; exact hc⟩)]
  exact he
theorem OffT.below {Ts : List TypeId} {A B C : World} (h1 : OffT Ts A B) (h2 : Below B.heap.size B C) : OffT Ts A C :=
  OffT.trans h1 (Ts' := []) ⟨h2.size, fun k hk _ => h2.block k hk⟩ (by simp)
/-- what region 32 keeps from operation to operation -/
structure RG (N : Nat) (w W3 : World) (bs : Nat) (ov sv sv0 : Value) (n m : Nat) (us ts : List Value) (Y : World) : Prop where
  own : Y.ownsRow (N + 2) 34 3 ov n us
  box : NumAt Y bs 22 sv0
  sin : Y.ownsRow (N + 2) 2 1 sv m ts
  off : OffT [34, 22, 2] W3 Y
  bel : Below N w Y
  sz : N + 2 ≤ Y.heap.size
theorem RG.keep {N : Nat} {w W3 : World} {bs : Nat} {ov sv sv0 : Value} {n m : Nat} {us ts : List Value} {Y Z : World} (h : RG N w W3 bs ov sv sv0 n m us ts Y) (hc : Below Y.heap.size Y Z) : RG N w W3 bs ov sv sv0 n m us ts Z :=
  ⟨ownN_keepAt h.own (fun j hj => hc.block j (World.ownsRow.lt h.own j hj).2), h.box.keep hc, ownN_keepAt h.sin (fun j hj => hc.block j (World.ownsRow.lt h.sin j hj).2), h.off.below hc, h.bel.trans (hc.mono (by have := h.sz; omega)), Nat.le_trans h.sz hc.size⟩
theorem RG.app1 {N : Nat} {w W3 : World} {bs : Nat} {ov ov' sv sv0 : Value} {n n' m : Nat} {us us' ts : List Value} {Y Z : World} (h : RG N w W3 bs ov sv sv0 n m us ts Y) (ho : Z.ownsRow (N + 2) 34 3 ov' n' us') (hT : OffT [34] Y Z) (hB : Below (N + 2) Y Z) : RG N w W3 bs ov' sv sv0 n' m us' ts Z :=
  ⟨ho, hT.num h.box (by decide), hT.row h.sin (by decide), h.off.trans hT (by decide), h.bel.trans (hB.mono (by omega)), Nat.le_trans h.sz hB.size⟩
theorem RG.app2 {N : Nat} {w W3 : World} {bs : Nat} {ov sv sv' sv0 : Value} {n m m' : Nat} {us ts ts' : List Value} {Y Z : World} (h : RG N w W3 bs ov sv sv0 n m us ts Y) (ho : Z.ownsRow (N + 2) 2 1 sv' m' ts') (hT : OffT [2] Y Z) (hB : Below (N + 2) Y Z) : RG N w W3 bs ov sv' sv0 n m' us ts' Z :=
  ⟨hT.row h.own (by decide), hT.num h.box (by decide), ho, h.off.trans hT (by decide), h.bel.trans (hB.mono (by omega)), Nat.le_trans h.sz hB.size⟩
theorem RG.store {N : Nat} {w W3 : World} {bs : Nat} {ov sv sv0 : Value} {n m : Nat} {us ts : List Value} {Y : World} (h : RG N w W3 bs ov sv sv0 n m us ts Y) (hb : N < bs) (x : Value) : RG N w W3 bs ov sv x n m us ts (Y.setCell ⟨bs, 0, none⟩ x) := by
  have hT : OffT [22] Y (Y.setCell ⟨bs, 0, none⟩ x) := Off.mono (Off.setCell (Fr := fun k => k = bs) (Off.refl _ _) (a := ⟨bs, 0, none⟩) rfl _) (by rintro k rfl; exact ⟨22, by simp, h.box.ty⟩)
  exact ⟨hT.row h.own (by decide), h.box.set x, hT.row h.sin (by decide), h.off.trans hT (by decide), h.bel.setCell (p := ⟨bs, 0, none⟩) (by show N ≤ bs; omega) _, by simpa using h.sz⟩
structure PI (N : Nat) (w : World) (left : Int) (b : Nat) (v ov : Value) (bs : Nat) (sv : Value) (L : List Fi.St) (last : Int) (rs : List Fi.Rule) (sn : List Int) (W : World) : Prop where
  lft : NumAt W N 3 (.int .i64 left)
  res : NumAt W (N + 1) 4 (.bool false)
  watch : WV W b v L last
  own : W.ownsRow (N + 2) 34 3 ov rs.length (rs.flatMap ruC)
  box : NumAt W bs 22 sv
  sin : W.ownsRow (N + 2) 2 1 sv sn.length (sn.map (.int .i64))
  hb : N < b
  hv : ∀ k, v.ownBlock = some k → N < k
  hbs : N < bs
  bel : Below N w W
theorem PI.keep {N : Nat} {w : World} {left : Int} {b : Nat} {v ov : Value} {bs : Nat} {sv : Value} {L : List Fi.St} {last : Int} {rs : List Fi.Rule} {sn : List Int} {W W' : World} (h : PI N w left b v ov bs sv L last rs sn W) (hc : Below W.heap.size W W') : PI N w left b v ov bs sv L last rs sn W' :=
  ⟨h.lft.keep hc, h.res.keep hc, h.watch.keep hc, ownN_keepAt h.own (fun j hj => hc.block j (World.ownsRow.lt h.own j hj).2), h.box.keep hc, ownN_keepAt h.sin (fun j hj => hc.block j (World.ownsRow.lt h.sin j hj).2), h.hb, h.hv, h.hbs, h.bel.trans (hc.mono (Nat.le_of_lt h.lft.lt))⟩
theorem PI.wat {N : Nat} {w : World} {left : Int} {b : Nat} {v v' ov : Value} {bs : Nat} {sv : Value} {L L' : List Fi.St} {last last' : Int} {rs : List Fi.Rule} {sn : List Int} {W W' : World} (h : PI N w left b v ov bs sv L last rs sn W) (hw : WV W' b v' L' last') (ho : Off (fun k => k = b ∨ v.ownBlock = some k) W W') (hB : Below b W W') (hv : ∀ k, v'.ownBlock = some k → N < k) : PI N w left b v' ov bs sv L' last' rs sn W' := by
  have hT : OffT [83, 88] W W' := Off.mono ho (by
    rintro k (rfl | hk)
    · exact ⟨83, by simp, h.watch.ty⟩
    · exact ⟨88, by simp, row_ty h.watch.own hk⟩)
  exact ⟨hT.num h.lft (by decide), hT.num h.res (by decide), hw, hT.row h.own (by decide), hT.num h.box (by decide), hT.row h.sin (by decide), h.hb, hv, h.hbs, h.bel.trans (hB.mono (Nat.le_of_lt h.hb))⟩
theorem PI.setSin {N : Nat} {w : World} {left : Int} {b : Nat} {v ov : Value} {bs g n cap : Nat} {L : List Fi.St} {last : Int} {rs : List Fi.Rule} {sn : List Int} {W : World} (h : PI N w left b v ov bs (.slice (some ⟨g, 0, none⟩) n cap) L last rs sn W) (hn : n = sn.length) (t : Nat) (x : Int) : PI N w left b v ov bs (.slice (some ⟨g, 0, none⟩) n cap) L last rs (sn.set t x) (W.setCell ⟨g, t, none⟩ (.int .i64 x)) := by
  have hg : Ty W g 2 := row_ty h.sin rfl
  have hgN := (World.ownsRow.lt h.sin g rfl).1
  have hT : OffT [2] W (W.setCell ⟨g, t, none⟩ (.int .i64 x)) := Off.mono (Off.setCell (Fr := fun k => k = g) (Off.refl _ _) (a := ⟨g, t, none⟩) rfl _) (by rintro k rfl; exact ⟨2, by simp, hg⟩)
  refine ⟨hT.num h.lft (by decide), hT.num h.res (by decide), hT.wv h.watch (by decide) (by decide), hT.row h.own (by decide), hT.num h.box (by decide), ?_, h.hb, h.hv, h.hbs, h.bel.setCell (p := ⟨g, t, none⟩) (by show N ≤ g; omega) _⟩
  rw [List.length_set, List.map_set]
  subst hn
  exact ownN_set h.sin t _
theorem PI.rest {N : Nat} {w : World} {left : Int} {b : Nat} {v ov ov' : Value} {bs : Nat} {sv sv' : Value} {L : List Fi.St} {last : Int} {rs rs' : List Fi.Rule} {sn sn' : List Int} {W W' : World} (h : PI N w left b v ov bs sv L last rs sn W) (ho : OffT [34, 22, 2] W W') (hB : Below N w W') (h1 : W'.ownsRow (N + 2) 34 3 ov' rs'.length (rs'.flatMap ruC)) (h2 : NumAt W' bs 22 sv') (h3 : W'.ownsRow (N + 2) 2 1 sv' sn'.length (sn'.map (.int .i64))) : PI N w left b v ov' bs sv' L last rs' sn' W' :=
  ⟨ho.num h.lft (by decide), ho.num h.res (by decide), ho.wv h.watch (by decide) (by decide), h1, h2, h3, h.hb, h.hv, h.hbs, hB⟩
theorem PI.offT {N : Nat} {w : World} {left : Int} {b : Nat} {v ov : Value} {bs : Nat} {sv : Value} {L : List Fi.St} {last : Int} {rs : List Fi.Rule} {sn : List Int} {W W' : World} (h : PI N w left b v ov bs sv L last rs sn W) (ho : OffT [53] W W') (hB : Below N w W') : PI N w left b v ov bs sv L last rs sn W' :=
  ⟨ho.num h.lft (by decide), ho.num h.res (by decide), ho.wv h.watch (by decide) (by decide), ho.row h.own (by decide), ho.num h.box (by decide), ho.row h.sin (by decide), h.hb, h.hv, h.hbs, hB⟩
theorem PI.watT {N : Nat} {w : World} {left : Int} {b : Nat} {v ov : Value} {bs : Nat} {sv : Value} {L : List Fi.St} {last : Int} {rs : List Fi.Rule} {sn : List Int} {W W' : World} (h : PI N w left b v ov bs sv L last rs sn W) (ho : Off (fun k => k = b ∨ v.ownBlock = some k) W W') : OffT [83, 88] W W' := Off.mono ho (by
  rintro k (rfl | hk)
  · exact ⟨83, by simp, h.watch.ty⟩
  · exact ⟨88, by simp, row_ty h.watch.own hk⟩)
/-- a step of the script, as the round holds it -/
def StpAt (W : World) (c : Nat) (s : Stp) : Prop := W.heap[c]? = some (.cells #[.bool s.add, .int .u8 s.r.kind, .int .u64 s.r.job, .int .i64 s.r.n, s.lv, .int .i64 s.now] 48 (0, 0))
theorem StpAt.facts {W : World} {c : Nat} {s : Stp} (h : StpAt W c s) : W.cell? ⟨c, 0, none⟩ = some (.bool s.add) ∧ W.cell? ⟨c, 1, none⟩ = some (.int .u8 s.r.kind) ∧ W.cell? ⟨c, 2, none⟩ = some (.int .u64 s.r.job) ∧ W.cell? ⟨c, 3, none⟩ = some (.int .i64 s.r.n) ∧ W.cell? ⟨c, 4, none⟩ = some s.lv ∧ W.cell? ⟨c, 5, none⟩ = some (.int .i64 s.now) := by
  refine ⟨?_, ?_, ?_, ?_, ?_, ?_⟩ <;> (rw [cell_of_row W c _ _ 48 (0, 0) h]; rfl)
theorem StpAt.ty {W : World} {c : Nat} {s : Stp} (h : StpAt W c s) : Ty W c 48 := ⟨_, _, h⟩
theorem StpAt.keep {W W' : World} {c : Nat} {s : Stp} (h : StpAt W c s) (hb : Below W.heap.size W W') : StpAt W' c s := by
  unfold StpAt; rw [hb.block c h.ty.lt]; exact h
theorem StpAt.off {W W' : World} {c : Nat} {s : Stp} {Ts : List TypeId} (h : StpAt W c s) (ho : OffT Ts W W') (hf : 48 ∉ Ts) : StpAt W' c s := by
  unfold StpAt; rw [Off.same ho c h.ty.lt (notT h.ty hf)]; exact h
theorem StpAt.new (W : World) (s : Stp) : StpAt (W.alloc (.cells #[.bool s.add, .int .u8 s.r.kind, .int .u64 s.r.job, .int .i64 s.r.n, s.lv, .int .i64 s.now] 48)) W.heap.size s := by
  unfold StpAt World.alloc; simp
/-- APPEND of one struct that lies in a block of its own: nothing is written to but the row's own block. -/
theorem wpList_appOff {P : Program} (w : World) {ops : Array Oper} {rest : List Oper} {o : Oper} {a : Act} {Q : Exit → Act → World → Prop} (hgd : o.guard = none) (s x : Operand) (t : TypeId)
    (ho : o.op = .call { callee := .builtin .append, args := #[s, x], argTypes := #[t, t] })
    (B : Nat) (e : TypeId) (z : Value) (sz bytes : Nat) (ht : P.underlying t = some (.slice e)) (hinfo : (P.info? e).map (fun i => (i.zero, i.size, i.bytes)) = some (some z, sz, bytes)) (hby : bytes ≤ 128)
    (hzs : z.cells.size = sz) (hsz : 0 < sz) {v : Value} {n : Nat} {xs : List Value} (hown : w.ownsRow B e sz v n xs) (us : List Value) (hus : us.length = sz) (hs : a.eval s = v) (hx : a.eval x = .slice (some ⟨w.heap.size, 0, none⟩) 1 1) (h1 : ∀ u ∈ us, u.oneCell' = true)
    (hsmall : n + 1 ≤ 1099511627776) (hbase : B ≤ w.heap.size)
    (hK : ∀ v' w', w'.ownsRow B e sz v' (n + 1) (xs ++ us) → OffT [e] w w' → Below B w w' → wpList P ops Q rest (a.put o.dst v') w') : wpList P ops Q (o :: rest) a (w.alloc (.cells us.toArray e)) := by
  obtain ⟨i, hi, hz, hszz, hbytes⟩ := info_parts hinfo
  have hblk : ∀ k, v.ownBlock = some k → B ≤ k := fun k hk => (hown.lt k hk).1
  refine wpList_append_own (w.alloc (.cells us.toArray e)) hgd s x t ho B e i z sz bytes ht hi hz hszz hbytes hzs hsz v n xs hs (hown.alloc _) ⟨w.heap.size, 0, none⟩ 1 1 us hx (by rw [hus, Nat.one_mul]) ?_ h1 (by unfold maxLen; omega) ?_ (by simp; omega) ?_
  · intro j u hj
    rw [Addr.add_lit, World.cell?_alloc_at _ _ _ _ rfl]
    simpa using hj
  · exact Nat.le_trans (Nat.mul_le_mul hsmall hby) (by decide)
  · intro v' w' h2 h3 _
    have hb := ((Below.refl B w).alloc hbase (.cells us.toArray e)).trans ((Below.refl _ _).grown h3 (by simp; omega) hblk)
    refine hK v' w' h2 ⟨hb.size, fun k hk hn => ?_⟩ hb
    have hk' : k < (w.alloc (.cells us.toArray e)).heap.size := by simp; omega
    rw [h3.block k hk' (fun he => hn ⟨e, by simp, row_ty hown he.symm⟩)]
    exact (Below.al (Below.refl w.heap.size w) (.cells us.toArray e)).block k hk
/-- APPEND of one struct, one operation, for itself: nothing is written to but the row's own block. -/
theorem wp_appOff {P : Program} (w : World) {o : Oper} {a : Act} {K : Act → World → Prop} {Q : Exit → Act → World → Prop} (s x : Operand) (t : TypeId)
    (ho : o.op = .call { callee := .builtin .append, args := #[s, x], argTypes := #[t, t] })
    (B : Nat) (e : TypeId) (z : Value) (sz bytes : Nat) (ht : P.underlying t = some (.slice e)) (hinfo : (P.info? e).map (fun i => (i.zero, i.size, i.bytes)) = some (some z, sz, bytes)) (hby : bytes ≤ 128)
    (hzs : z.cells.size = sz) (hsz : 0 < sz) {v : Value} {n : Nat} {xs : List Value} (hown : w.ownsRow B e sz v n xs) (us : List Value) (hus : us.length = sz) (hs : a.eval s = v) (ad : Addr) (hx : a.eval x = .slice (some ad) 1 1)
    (hc : ∀ j u, us[j]? = some u → w.cell? (ad.add j) = some u) (h1 : ∀ u ∈ us, u.oneCell' = true)
    (hsmall : n + 1 ≤ 1099511627776) (hbase : B ≤ w.heap.size)
    (hK : ∀ v' w', w'.ownsRow B e sz v' (n + 1) (xs ++ us) → OffT [e] w w' → Below B w w' → K (a.put o.dst v') w') : o.wp P a w K Q := by
  obtain ⟨i, hi, hz, hszz, hbytes⟩ := info_parts hinfo
  have hblk : ∀ k, v.ownBlock = some k → B ≤ k := fun k hk => (hown.lt k hk).1
  refine wp_append_own w s x t ho B e i z sz bytes ht hi hz hszz hbytes hzs hsz v n xs hs hown ad 1 1 us hx (by rw [hus, Nat.one_mul]) ?_ h1 (by unfold maxLen; omega) ?_ hbase ?_
  · intro j u hj; exact hc j u hj
  · exact Nat.le_trans (Nat.mul_le_mul hsmall hby) (by decide)
  · intro v' w' h2 h3 _
    refine hK v' w' h2 ?_ ((Below.refl _ _).grown h3 hbase hblk)
    exact ⟨h3.size, fun k hk hn => h3.block k hk (fun he => hn ⟨e, by simp, row_ty hown he.symm⟩)⟩
end Go.Proofs.Ytaepkmjlkenenaa
