/- append of whatever slice reads as numbers, nil or not, onto a row of the call's own. -/
import Derived.Test.YtciafmnideihjaaMem
import Derived.Laws.AppendOwnNone
import Derived.OwnWalk
namespace Go.Proofs.Ytciafmnideihjaa
open Go.RowKit

theorem app_rd {P : Program} {w : World} {k : IntKind} {base : Nat} {t ty e T : TypeId} {i : TypeInfo} {z : Value} {bytes : Nat} (ht : P.underlying t = some (.slice e)) (hi : P.info? e = some i) (hz : i.zero = some z)
    (hsize : i.size = 1) (hby : i.bytes = bytes) (hzs : z.cells.size = 1) {v : Value} {n : Nat} {xs : List Value} (hown : w.ownsRow base e 1 v n xs)
    {A : Option Addr} {m c : Nat} {l : List Nat} (hR : Rd k T w (.slice A m c) l) (h63 : n + m ≤ maxLen) (hbytes : (n + m) * bytes ≤ 140737488355328) (hbase : base ≤ w.heap.size) :
    ∃ v' w', (Builtin.append_ #[t, t] ty #[v, .slice A m c]).run P w = .ok v' w' ∧ w'.ownsRow base e 1 v' (n + m) (xs ++ ivs k l) ∧ w.grownBy w' v.ownBlock := by
  obtain ⟨A', c', e1, h1, h2, h3⟩ := hR
  injection e1 with e1 e2 e3
  subst e1 e2 e3
  by_cases hn : l = []
  · subst hn
    cases A with
    | none =>
      refine ⟨v, w, ?_, ?_, gb_refl _ _⟩
      · rcases hown.2 with ⟨rfl, rfl⟩ | ⟨g, cap, cur, rfl, _, _, hnc, _⟩
        · simp [Builtin.append_, run_underlying ht, sizeOf, typeInfo, hi, Builtin.lenOf, Builtin.firstCells]
        · simp [Builtin.append_, run_underlying ht, sizeOf, typeInfo, hi, Builtin.lenOf, Builtin.firstCells, hnc, storeCells]
      · simpa [ivs] using hown
    | some a =>
      obtain ⟨v', w', hr, ho, hg, -⟩ := run_append_own (P := P) w base t ty e i z 1 bytes ht hi hz hsize hby hzs (by decide) v n xs hown a 0 c [] rfl (fun j u hj => by simp at hj) (fun u hu => by cases hu) h63 hbytes hbase
      exact ⟨v', w', hr, by simpa [ivs] using ho, hg⟩
  · obtain ⟨g, off, L, rfl, hrow, hL⟩ := h3 hn
    obtain ⟨v', w', hr, ho, hg, -⟩ := run_append_own (P := P) w base t ty e i z 1 bytes ht hi hz hsize hby hzs (by decide) v n xs hown ⟨g, off, none⟩ l.length c (ivs k l) (by simp [ivs_len])
      (fun j u hj => by
        have hjl : j < l.length := by
          rcases Nat.lt_or_ge j l.length with h | h
          · exact h
          · rw [List.getElem?_eq_none (by rw [ivs_len]; exact h)] at hj; cases hj
        have hx : l[j]? = some l[j] := List.getElem?_eq_getElem hjl
        rw [ivs_get hx] at hj
        cases hj
        have := hrow.cell (hL j _ hx)
        unfold Addr.add
        split
        · rename_i h0; subst h0; simpa using this
        · exact this)
      (fun u hu => by
        obtain ⟨x, _, rfl⟩ := List.mem_map.1 hu
        rfl) h63 hbytes hbase
    exact ⟨v', w', hr, ho, hg⟩

theorem wpList_append_rd {P : Program} {w : World} {ops : Array Oper} {rest : List Oper} {o : Oper} {a : Act} {Q : Exit → Act → World → Prop} (hgd : o.guard = none) (s x : Operand) (t : TypeId)
    (ho : o.op = .call { callee := .builtin .append, args := #[s, x], argTypes := #[t, t] })
    (k : IntKind) (base : Nat) (e T : TypeId) (i : TypeInfo) (z : Value) (bytes : Nat) (ht : P.underlying t = some (.slice e)) (hi : P.info? e = some i) (hz : i.zero = some z)
    (hsize : i.size = 1) (hby : i.bytes = bytes) (hzs : z.cells.size = 1) (v : Value) (n : Nat) (xs : List Value) (hs : a.eval s = v) (hown : w.ownsRow base e 1 v n xs)
    (A : Option Addr) (m c : Nat) (l : List Nat) (hx : a.eval x = .slice A m c) (hR : Rd k T w (.slice A m c) l) (h63 : n + m ≤ maxLen) (hbytes : (n + m) * bytes ≤ 140737488355328) (hbase : base ≤ w.heap.size)
    (h : ∀ v' w', w'.ownsRow base e 1 v' (n + m) (xs ++ ivs k l) → w.grownBy w' v.ownBlock → wpList P ops Q rest (a.put o.dst v') w') : wpList P ops Q (o :: rest) a w := by
  refine wpList_plain hgd fun K hK => ?_
  obtain ⟨v', w', hrun, ho', hg'⟩ := app_rd (P := P) (ty := o.type) ht hi hz hsize hby hzs hown hR h63 hbytes hbase
  unfold Oper.wp
  simp [execOp, ho, resolve, invoke, builtin, hs, hx, hrun, Result.andThen]
  exact hK _ _ (h v' w' ho' hg')
end Go.Proofs.Ytciafmnideihjaa
