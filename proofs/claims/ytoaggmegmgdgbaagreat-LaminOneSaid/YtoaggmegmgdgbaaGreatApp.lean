import Derived.Test.YtoaggmegmgdgbaaGreatMem
import Derived.Laws.AppendOwnNone
import Derived.OwnWalk
namespace Go.Proofs.YtoaggmegmgdgbaaGreat
open Go.RowKit
theorem own_rd {k : IntKind} {T : TypeId} {w : World} {base : Nat} {v : Value} {l : List Nat} (h : w.ownsRow base T 1 v l.length (ivs k l)) : Rd k T w v l := by
  rcases h.2 with ⟨rfl, h0⟩ | ⟨g, cap, cur, rfl, -, hg, hc, hm, -, ht⟩
  · obtain rfl : l = [] := List.length_eq_zero_iff.1 h0
    exact Rd.nil_
  · refine ⟨some ⟨g, 0, none⟩, cap, rfl, hc, hm, fun _ => ⟨g, 0, fun j => l[j]?, rfl, ⟨cur, (0, 0), hg, fun j x hj => ?_⟩, fun j x hj => by rw [Nat.zero_add]; exact hj⟩⟩
    replace hj : l[j]? = some x := hj
    have h1 := ivs_get (k := k) hj
    rw [← ht, Nat.mul_one] at h1
    have hjl : j < l.length := (List.getElem?_eq_some_iff.1 hj).1
    rw [List.getElem?_take_of_lt hjl] at h1
    simpa using h1
theorem rd_drop {k : IntKind} {T : TypeId} {w : World} {g off c p n m : Nat} {l : List Nat} (h : Rd k T w (.slice (some ⟨g, off, none⟩) n c) l) (hp : p ≤ l.length) (hm : m = l.length - p) : Rd k T w (.slice (some ⟨g, off + p, none⟩) m (c - p)) (l.drop p) := by
  obtain ⟨A', c', he, h1, h2, h3⟩ := h
  injection he with e1 e2 e3
  subst e1 e3
  have hl : (l.drop p).length = m := by rw [List.length_drop]; omega
  refine ⟨_, c - p, by rw [hl], by omega, by omega, fun hn => ?_⟩
  obtain ⟨g', off', L, ea, hr, hL⟩ := h3 (fun e => by rw [e] at hn; simp at hn)
  injection ea with ea
  injection ea with eg eo
  subst eg eo
  refine ⟨g, off + p, L, rfl, hr, fun j x hj => ?_⟩
  rw [List.getElem?_drop] at hj
  have := hL _ x hj
  rwa [← Nat.add_assoc] at this
theorem own_len {k : IntKind} {w : World} {base : Nat} {T : TypeId} {v : Value} {n : Nat} {l : List Nat} (h : w.ownsRow base T 1 v n (ivs k l)) : n = l.length := by
  have := h.1
  rw [ivs_len] at this
  omega
theorem own_rdn {k : IntKind} {w : World} {base : Nat} {T : TypeId} {v : Value} {n : Nat} {l : List Nat} (h : w.ownsRow base T 1 v n (ivs k l)) : Rd k T w v l := by
  have e := own_len h
  subst e
  exact own_rd h
theorem rd_drop0 {k : IntKind} {T : TypeId} {w : World} {g c p n m : Nat} {l : List Nat} (h : Rd k T w (.slice (some ⟨g, 0, none⟩) n c) l) (hp : p ≤ l.length) (hm : m = l.length - p) : Rd k T w (.slice (some ⟨g, p, none⟩) m (c - p)) (l.drop p) := by
  have h1 := rd_drop h hp hm
  rwa [Nat.zero_add] at h1
theorem app_rd {P : Program} {w : World} {k : IntKind} {base : Nat} {t ty e T : TypeId} {i : TypeInfo} {z : Value} {bytes : Nat} (ht : P.underlying t = some (.slice e)) (hi : P.info? e = some i) (hz : i.zero = some z)
    (hsize : i.size = 1) (hby : i.bytes = bytes) (hzs : z.cells.size = 1) {v : Value} {n : Nat} {xs : List Value} (hown : w.ownsRow base e 1 v n xs)
    {A : Option Addr} {m c : Nat} {l : List Nat} (hR : Rd k T w (.slice A m c) l) (h63 : n + m ≤ maxLen) (hbytes : (n + m) * bytes ≤ 140737488355328) (hbase : base ≤ w.heap.size) :
    ∃ v' w', (Builtin.append_ #[t, t] ty #[v, .slice A m c]).run P w = .ok v' w' ∧ w'.ownsRow base e 1 v' (n + m) (xs ++ ivs k l) ∧ w.grownBy w' v.ownBlock := by
  obtain ⟨A', c', e1, h1, h2, h3⟩ := hR
  injection e1 with e1 e2 e3
  subst e1 e2 e3
  by_cases hn : l = []
  · subst hn
    cases A with
    | none =>
      refine ⟨v, w, ?_, ?_, gb_refl _ _⟩
      · rcases hown.2 with ⟨rfl, rfl⟩ | ⟨g, cap, cur, rfl, _, _, hnc, _⟩
        · simp [Builtin.append_, run_underlying ht, sizeOf, typeInfo, hi, Builtin.lenOf, Builtin.firstCells]
        · simp [Builtin.append_, run_underlying ht, sizeOf, typeInfo, hi, Builtin.lenOf, Builtin.firstCells, hnc, storeCells]
      · simpa [ivs] using hown
    | some a =>
      obtain ⟨v', w', hr, ho, hg, -⟩ := run_append_own (P := P) w base t ty e i z 1 bytes ht hi hz hsize hby hzs (by decide) v n xs hown a 0 c [] rfl (fun j u hj => by simp at hj) (fun u hu => by cases hu) h63 hbytes hbase
      exact ⟨v', w', hr, by simpa [ivs] using ho, hg⟩
  · obtain ⟨g, off, L, rfl, hrow, hL⟩ := h3 hn
    obtain ⟨v', w', hr, ho, hg, -⟩ := run_append_own (P := P) w base t ty e i z 1 bytes ht hi hz hsize hby hzs (by decide) v n xs hown ⟨g, off, none⟩ l.length c (ivs k l) (by simp [ivs_len])
      (fun j u hj => by
        have hjl : j < l.length := by
          rcases Nat.lt_or_ge j l.length with h | h
          · exact h
          · rw [List.getElem?_eq_none (by rw [ivs_len]; exact h)] at hj; cases hj
        have hx : l[j]? = some l[j] := List.getElem?_eq_getElem hjl
        rw [ivs_get hx] at hj
        cases hj
        have := hrow.cell (hL j _ hx)
        unfold Addr.add
        split
        · rename_i h0; subst h0; simpa using this
        · exact this)
      (fun u hu => by
        obtain ⟨x, _, rfl⟩ := List.mem_map.1 hu
        rfl) h63 hbytes hbase
    exact ⟨v', w', hr, ho, hg⟩
theorem wpList_append_rd {P : Program} {w : World} {ops : Array Oper} {rest : List Oper} {o : Oper} {a : Act} {Q : Exit → Act → World → Prop} (hgd : o.guard = none) (s x : Operand) (t : TypeId)
    (ho : o.op = .call { callee := .builtin .append, args := #[s, x], argTypes := #[t, t] })
    (k : IntKind) (base : Nat) (e T : TypeId) (i : TypeInfo) (z : Value) (bytes : Nat) (ht : P.underlying t = some (.slice e)) (hi : P.info? e = some i) (hz : i.zero = some z)
    (hsize : i.size = 1) (hby : i.bytes = bytes) (hzs : z.cells.size = 1) (v : Value) (n : Nat) (xs : List Value) (hs : a.eval s = v) (hown : w.ownsRow base e 1 v n xs)
    (A : Option Addr) (m c : Nat) (l : List Nat) (hx : a.eval x = .slice A m c) (hR : Rd k T w (.slice A m c) l) (h63 : n + m ≤ maxLen) (hbytes : (n + m) * bytes ≤ 140737488355328) (hbase : base ≤ w.heap.size)
    (h : ∀ v' w', w'.ownsRow base e 1 v' (n + m) (xs ++ ivs k l) → w.grownBy w' v.ownBlock → wpList P ops Q rest (a.put o.dst v') w') : wpList P ops Q (o :: rest) a w := by
  refine wpList_plain hgd fun K hK => ?_
  obtain ⟨v', w', hrun, ho', hg'⟩ := app_rd (P := P) (ty := o.type) ht hi hz hsize hby hzs hown hR h63 hbytes hbase
  unfold Oper.wp
  simp [execOp, ho, resolve, invoke, builtin, hs, hx, hrun, Result.andThen]
  exact hK _ _ (h v' w' ho' hg')
end Go.Proofs.YtoaggmegmgdgbaaGreat
