/- Messages in memory. -/
import Derived.Test.YtlcnjinabfbglaaSr2
import Derived.Test.YtlcnjinabfbglaaRp2
import Derived.Test.YtlcnjinabfbglaaQ11
namespace Go.Proofs.Ytlcnjinabfbglaa
open Go.RowKit
/-- an entry, with the slice that is its body -/
structure EV where
  idx : Nat
  term : Nat
  v : Value
  body : List UInt8
def EV.ent (e : EV) : Rp.Ent := ⟨e.idx, e.term, e.body⟩
def evC (e : EV) : List Value := [u64 e.idx, u64 e.term, e.v]
theorem evC_len (e : EV) : (evC e).length = 3 := rfl
/-- what an entry's slice reads as -/
def EvOk (w : World) (e : EV) : Prop := Bts w e.v e.body ∧ e.ent.N
theorem EvOk.keep {w w' : World} {e : EV} (h : EvOk w e) (hb : Below w.heap.size w w') : EvOk w' e := ⟨h.1.keep hb, h.2⟩
/-- entries in memory -/
def Ents (w : World) (v : Value) (xs : List EV) : Prop := Row evC w v xs ∧ ∀ x ∈ xs, EvOk w x
theorem Ents.keep {w w' : World} {v : Value} {xs : List EV} (h : Ents w v xs) (hb : Below w.heap.size w w') : Ents w' v xs := ⟨h.1.keep hb, fun x hx => (h.2 x hx).keep hb⟩
theorem Ents.nil (w : World) : Ents w (.slice none 0 0) [] := ⟨Row.nil _ _, by simp⟩
/-- numbers in memory -/
def Nums (w : World) (v : Value) (ns : List Nat) : Prop := Sli w v (ns.map u64) ∧ ∀ n ∈ ns, Rp.N64 n
theorem Nums.keep {w w' : World} {v : Value} {ns : List Nat} (h : Nums w v ns) (hb : Below w.heap.size w w') : Nums w' v ns := ⟨h.1.keep hb, h.2⟩
theorem Nums.nil (w : World) : Nums w (.slice none 0 0) [] := ⟨Sli.nil w, by simp⟩
theorem Nums.form {w : World} {v : Value} {ns : List Nat} (h : Nums w v ns) : ∃ ao cap, v = .slice ao ns.length cap ∧ ns.length ≤ cap ∧ cap ≤ maxLen ∧ (ao = none → cap = 0) := by
  obtain ⟨ao, cap, hv, h1, h2, h3, -⟩ := h.1
  rw [List.length_map] at hv h1
  exact ⟨ao, cap, hv, h1, h2, h3⟩
theorem Nums.at {w : World} {ao : Option Addr} {n cap : Nat} {ns : List Nat} (h : Nums w (.slice ao n cap) ns) (hl : 0 < ns.length) :
    ∃ b off, ao = some ⟨b, off, none⟩ ∧ b < w.heap.size ∧ ∀ i, i < ns.length → w.cell? ⟨b, off + i, none⟩ = some (u64 (ns.getD i 0)) := by
  obtain ⟨b, off, h1, h2, h3⟩ := Sli.at h.1 (by simpa using hl)
  exact ⟨b, off, h1, h2, fun i hi => h3 i _ (by simp [hi])⟩
theorem Nums.lt {w : World} {v : Value} {ns : List Nat} (h : Nums w v ns) {i : Nat} (hi : i < ns.length) : ns.getD i 0 < 18446744073709551616 :=
  h.2 _ (by rw [List.getD_eq_getElem?_getD, List.getElem?_eq_getElem hi]; exact List.getElem_mem _)
theorem Ents.form {w : World} {v : Value} {xs : List EV} (h : Ents w v xs) : ∃ ao cap, v = .slice ao xs.length cap ∧ xs.length ≤ cap ∧ cap ≤ maxLen ∧ (ao = none → cap = 0) := h.1.form
/-- an entry at its place -/
theorem Ents.at {w : World} {ao : Option Addr} {n cap : Nat} {xs : List EV} (h : Ents w (.slice ao n cap) xs) {i : Nat} {x : EV} (hi : xs[i]? = some x) :
    ∃ b off, ao = some ⟨b, off, none⟩ ∧ b < w.heap.size ∧ w.cell? ⟨b, off + i * 3, none⟩ = some (u64 x.idx) ∧ w.cell? ⟨b, off + i * 3 + 1, none⟩ = some (u64 x.term) ∧ w.cell? ⟨b, off + i * 3 + 2, none⟩ = some x.v ∧ EvOk w x := by
  have hl := (List.getElem?_eq_some_iff.1 hi).1
  obtain ⟨b, off, h1, h2, h3⟩ := Row.at evC_len (by omega) h.1 (by omega)
  exact ⟨b, off, h1, h2, h3 i x hi 0 _ rfl, h3 i x hi 1 _ rfl, h3 i x hi 2 _ rfl, h.2 x (List.mem_of_getElem? hi)⟩
/-- a message, with its slices -/
structure MV where
  m : Rp.Msg
  ev : Value
  pv : Value
  iv : Value
  xs : List EV
def msgV (x : MV) : Value := .agg #[.int .i64 x.m.kind, u64 x.m.frm, u64 x.m.to, u64 x.m.term, .bool x.m.pre, .bool x.m.ok, u64 x.m.index, u64 x.m.logTerm, u64 x.m.commit, x.ev, x.pv, u64 x.m.sidx, u64 x.m.sterm, x.iv]
structure MvOk (w : World) (x : MV) : Prop where
  ents : Ents w x.ev x.xs
  peers : Nums w x.pv x.m.peers
  image : Bts w x.iv x.m.image
  xs : x.xs.map EV.ent = x.m.ents
  n : x.m.N
  k1 : -9223372036854775808 ≤ x.m.kind
  k2 : x.m.kind ≤ 9223372036854775807
theorem MvOk.keep {w w' : World} {x : MV} (h : MvOk w x) (hb : Below w.heap.size w w') : MvOk w' x := ⟨h.ents.keep hb, h.peers.keep hb, h.image.keep hb, h.xs, h.n, h.k1, h.k2⟩
end Go.Proofs.Ytlcnjinabfbglaa
