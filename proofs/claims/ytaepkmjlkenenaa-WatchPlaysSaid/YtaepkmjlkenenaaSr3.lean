/- Small laws, over any program: an append of one struct inside a region whose order is drawn. -/
import Derived.Test.YtaepkmjlkenenaaSr2
import Derived.Maps.AppendAt
namespace Go.Proofs.Ytaepkmjlkenenaa
open Go.RowKit

/-- APPEND of one struct to a row of the call's own: one operation, for itself. -/
theorem wp_appS {P : Program} (w : World) {o : Oper} {a : Act} {K : Act → World → Prop} {Q : Exit → Act → World → Prop} (s x : Operand) (t : TypeId)
    (ho : o.op = .call { callee := .builtin .append, args := #[s, x], argTypes := #[t, t] })
    (B : Nat) (e : TypeId) (z : Value) (sz bytes : Nat) (ht : P.underlying t = some (.slice e)) (hinfo : (P.info? e).map (fun i => (i.zero, i.size, i.bytes)) = some (some z, sz, bytes)) (hby : bytes ≤ 128)
    (hzs : z.cells.size = sz) (hsz : 0 < sz) {v : Value} {n : Nat} {xs : List Value} (hown : w.ownsRow B e sz v n xs) (us : List Value) (hus : us.length = sz) (hs : a.eval s = v) {k : Nat} (hx : a.eval x = .slice (some ⟨k, 0, none⟩) 1 1) (hk : k = w.heap.size) (h1 : ∀ u ∈ us, u.oneCell' = true)
    (hsmall : n + 1 ≤ 1099511627776) (hbase : B ≤ w.heap.size)
    (hK : ∀ v' w', w'.ownsRow B e sz v' (n + 1) (xs ++ us) → (w.alloc (.cells us.toArray e)).grownBy w' v.ownBlock → (v'.ownBlock = v.ownBlock ∨ v'.ownBlock = some (w.heap.size + 1)) → K (a.put o.dst v') w') : o.wp P a (w.alloc (.cells us.toArray e)) K Q := by
  subst hk
  obtain ⟨i, hi, hz, hszz, hbytes⟩ := info_parts hinfo
  obtain ⟨v', w', hr, h2, h3, h4, h5⟩ := run_append_own_at (P := P) (w.alloc (.cells us.toArray e)) B t o.type e i z sz bytes ht hi hz hszz hbytes hzs hsz v n xs (hown.alloc _) ⟨w.heap.size, 0, none⟩ 1 1 us (by rw [hus, Nat.one_mul]) (by
    intro j u hj
    rw [Addr.add_lit, World.cell?_alloc_at _ _ _ _ rfl]
    simpa using hj) h1 (by unfold maxLen; omega) (Nat.le_trans (Nat.mul_le_mul hsmall hby) (by decide)) (by simp; omega)
  unfold Oper.wp
  simp [execOp, ho, resolve, invoke, builtin, hs, hx, hr, Result.andThen]
  exact hK v' w' h2 h3 (by simpa using h5)
end Go.Proofs.Ytaepkmjlkenenaa
