/- For the Lang rows: parts as an argument; a string as an argument; what the listed variables hold. -/
import Derived.Test.YtnaadajcehfmiaaDoorCard
import Derived.Test.YtnaadajcehfmiaaDoorLsD
import Derived.Deep.Slices
import Derived.Deep.Strs
import Derived.ChangeSame
import Derived.ChangeMaps5
import Derived.MakeChecks
namespace Go.Proofs.YtnaadajcehfmiaaDoor
open Go.ChangeShapes Go.WideShapes Go.ChangeAt Go.RowKit Go.Deep

theorem mkS_sl (s : ByteArray) : mkS (sl s) = s := sl_inj (sl_mkS (byt_sl s))
section
variable {H : Type} {enc : TypeId × Value → H} {W : World} {base : Nat}
set_option maxRecDepth 100000 in
theorem lgtext_open {ts : List TypeId} {ds : List (DataW H)} {j : Nat} {v : Value} {d : DataW H} {ps : List MemPlace} (hv : Value.okWide Tryd.prog W .any base 9 v)
    (h : DataW.Trod enc Tryd.prog W 0 (fun _ => true) true 9 v d ps) (hsz : (DataW.weightsEach Tryd.prog ts ds).all (· ≤ reachBytes) = true) (ht : ts[j]? = some 9) (hd : ds[j]? = some d) :
    ∃ s : ByteArray, v = .string s ∧ s.size ≤ 140737488351232 := by
  obtain ⟨s, rfl, rfl, rfl, -⟩ := Go.ChangeMaps.open_string Tryd.underlying9 hv h
  refine ⟨s, rfl, ?_⟩
  have := List.all_eq_true.1 hsz _ (DataW.weights_mem_each ht hd s.size (by simp [DataW.weights]))
  simpa [show reachBytes = 140737488351232 from rfl] using this
theorem lgaddr_plain {a : Addr} {v : Value} (h : W.cell? (a.add 0) = some v) : a = ⟨a.block, a.off, none⟩ := by
  rw [show a.add 0 = a by simp [Addr.add]] at h
  obtain ⟨g, off, sp⟩ := a
  unfold World.cell? at h
  simp only at h
  split at h
  · split at h
    · cases h
    · rename_i hsp
      have : sp = none := by simpa using hsp
      rw [this]
  · cases h
theorem u8_nat {n : Int} (h : (Lit.int .u8 n).wf = true) : ∃ k : Nat, n = (k : Int) := by
  simp [Lit.wf] at h
  have e : IntKind.u8.min = 0 := rfl
  exact ⟨n.toNat, by omega⟩
set_option maxRecDepth 100000 in
theorem node_cells {n : Nat} {cs : List Value} {x : DataW H × List MemPlace} (h : DataW.trod enc Tryd.prog W 0 (fun _ => true) true n 38 cs = some x) : ∃ r : RNo, cs = encR r ∧ Byt r.text := by
  obtain ⟨xs, k, hk, hxy, hlen, hxl, hf⟩ := DataW.trod_struct Tryd.underlying38 h
  rw [show Tryd.prog.cellsOf 38 = 5 by kernel_rfl] at hlen
  have c0 : Tryd.prog.cellsOf 36 = 1 := by kernel_rfl
  have c1 : Tryd.prog.cellsOf 9 = 1 := by kernel_rfl
  have c2 : Tryd.prog.cellsOf 3 = 1 := by kernel_rfl
  match cs, hlen with
  | [v0, v1, v2, v3, v4], _ =>
    match xs, hxl with
    | [y0, y1, y2, y3, y4], _ =>
      have g0 := hf 0 _ rfl
      have g1 := hf 1 _ rfl
      have g2 := hf 2 _ rfl
      have g3 := hf 3 _ rfl
      have g4 := hf 4 _ rfl
      simp [c0, c1, c2] at g0 g1 g2 g3 g4
      obtain ⟨b, e0, -, w0⟩ := DataW.trod_int Tryd.underlying36 g0
      obtain ⟨s, e1, -, s1⟩ := DataW.trod_string Tryd.underlying9 g1
      obtain ⟨a, e2, -, -⟩ := DataW.trod_int Tryd.underlying3 g2
      obtain ⟨c, e3, -, -⟩ := DataW.trod_int Tryd.underlying3 g3
      obtain ⟨d, e4, -, -⟩ := DataW.trod_int Tryd.underlying3 g4
      simp only [List.cons.injEq, and_true] at e0 e1 e2 e3 e4
      obtain ⟨k, rfl⟩ := u8_nat w0
      rw [e0, e1, e2, e3, e4]
      exact ⟨⟨k, sl s, a, c, d⟩, by unfold encR; rw [mkS_sl], byt_sl s⟩
set_option maxRecDepth 100000 in
theorem let_cells {n : Nat} {cs : List Value} {x : DataW H × List MemPlace} (h : DataW.trod enc Tryd.prog W 0 (fun _ => true) true n 40 cs = some x) : ∃ r : RLt, cs = encRL r ∧ Byt r.name := by
  obtain ⟨xs, k, hk, hxy, hlen, hxl, hf⟩ := DataW.trod_struct Tryd.underlying40 h
  rw [show Tryd.prog.cellsOf 40 = 2 by kernel_rfl] at hlen
  have c1 : Tryd.prog.cellsOf 9 = 1 := by kernel_rfl
  have c2 : Tryd.prog.cellsOf 3 = 1 := by kernel_rfl
  match cs, hlen with
  | [v0, v1], _ =>
    match xs, hxl with
    | [y0, y1], _ =>
      have g0 := hf 0 _ rfl
      have g1 := hf 1 _ rfl
      simp [c1, c2] at g0 g1
      obtain ⟨s, e1, -, s1⟩ := DataW.trod_string Tryd.underlying9 g0
      obtain ⟨a, e2, -, -⟩ := DataW.trod_int Tryd.underlying3 g1
      simp only [List.cons.injEq, and_true] at e1 e2
      rw [e1, e2]
      exact ⟨⟨sl s, a⟩, by unfold encRL; rw [mkS_sl], byt_sl s⟩
set_option maxRecDepth 100000 in
/-- A slice of things of k cells each. -/
theorem lgrows_open {fuel : Nat} {c : Value} {x : DataW H × List MemPlace} {t e : TypeId} {α : Type} [Inhabited α] {k : Nat} {en : α → List Value} {ok : α → Prop}
    (ht : Tryd.prog.underlying t = some (.slice e)) (hk : Tryd.prog.cellsOf e = k) (hk0 : 0 < k)
    (hcell : ∀ {cs : List Value} {x : DataW H × List MemPlace} {n : Nat}, DataW.trod enc Tryd.prog W 0 (fun _ => true) true n e cs = some x → ∃ r : α, cs = en r ∧ ok r)
    (h : DataW.trod enc Tryd.prog W 0 (fun _ => true) true fuel t [c] = some x) :
    ∃ (N : List α) (A : Option Addr) (cp : Nat), c = .slice A N.length cp ∧ (0 < N.length → ∃ g o, A = some ⟨g, o, none⟩ ∧ g < W.heap.size ∧ ∀ i, i < N.length → ∀ (j : Nat) (u : Value), (en N[i]!)[j]? = some u → W.cell? ⟨g, o + i * k + j, none⟩ = some u) ∧ (∀ r, r ∈ N → ok r) ∧ (N = [] ∨ ∃ es sp, x.1 = .slice es sp ∧ es.length = N.length) := by
  rcases open_slice ht h with ⟨hcs, -⟩ | ⟨a, len', cap', m, n, D, Pl, hcs, -, hl, hm, hmm, hx0, hx⟩
  · obtain rfl : c = .slice none 0 0 := by simpa using hcs
    exact ⟨[], none, 0, rfl, fun h => absurd h (Nat.lt_irrefl _), fun r hr => (by cases hr), .inl rfl⟩
  · obtain rfl : c = .slice (some a) len' cap' := by simpa using hcs
    simp only [if_true] at hmm
    have each : ∀ i, i < len' → ∃ r : α, (∀ j, j < k → W.cell? ((a.add (i * k)).add j) = (en r)[j]?) ∧ (en r).length = k ∧ ok r := fun i hi => by
      obtain ⟨cs', h1, h2⟩ := hx i (by omega)
      rw [hk] at h1
      obtain ⟨-, hlen, hc⟩ := World.cells?_some h1
      obtain ⟨r, rfl, hok⟩ := hcell h2
      exact ⟨r, hc, hlen, hok⟩
    obtain ⟨S, hS⟩ := choose_lt each
    refine ⟨(List.range len').map S, some a, cap', by simp, fun h0 => ?_, fun r hr => ?_, .inr ⟨_, _, congrArg Prod.fst hx0, by simp⟩⟩
    · have h0' : 0 < len' := by simpa using h0
      have hz := (hS 0 h0').1 0 hk0
      have hl0 := (hS 0 h0').2.1
      rw [List.getElem?_eq_getElem (by omega), Nat.zero_mul, show (a.add 0) = a by simp [Addr.add]] at hz
      have ha := lgaddr_plain hz
      have hz2 : W.cell? ⟨a.block, a.off, none⟩ = some ((en (S 0))[0]'(by omega)) := by
        rw [← ha]; rw [show (a.add 0) = a by simp [Addr.add]] at hz; exact hz
      refine ⟨a.block, a.off, by rw [← ha], block_lt_of_cell (a := ⟨a.block, a.off, none⟩) hz2, fun i hi j u hu => ?_⟩
      rw [List.length_map, List.length_range] at hi
      rw [getElem!_pos _ i (by simpa using hi), List.getElem_map, List.getElem_range] at hu
      have hj : j < k := by
        have := List.getElem?_eq_some_iff.1 hu
        have h2 := (hS i hi).2.1
        obtain ⟨h3, -⟩ := this
        omega
      have h1 := (hS i hi).1 j hj
      rw [hu, ha] at h1
      rw [← h1]
      congr 1
      unfold Addr.add
      by_cases e1 : i * k = 0 <;> by_cases e2 : j = 0 <;> simp [e1, e2] <;> omega
    · obtain ⟨i, hi, rfl⟩ := List.mem_map.1 hr
      exact (hS i (List.mem_range.1 hi)).2.2
set_option maxRecDepth 100000 in
/-- Parts that come in. -/
theorem prog_open {ts : List TypeId} {ds : List (DataW H)} {j : Nat} {v : Value} {d : DataW H} {ps : List MemPlace} (hv : Value.okWide Tryd.prog W .any base 25 v)
    (h : DataW.Trod enc Tryd.prog W 0 (fun _ => true) true 25 v d ps) (hsz : (DataW.weightsEach Tryd.prog ts ds).all (· ≤ reachBytes) = true) (ht : ts[j]? = some 25) (hd : ds[j]? = some d) :
    ∃ vN vL m N Ls, v = .agg #[vN, vL, .int .i64 m] ∧ PrgM W vN vL N Ls := by
  obtain ⟨cs, rfl, hs⟩ := okWide_struct Tryd.underlying25 hv
  rw [show Tryd.prog.cellsOf 25 = 3 by kernel_rfl] at hs
  obtain ⟨c0, c1, c2, rfl⟩ : ∃ c0 c1 c2, cs = #[c0, c1, c2] := by
    obtain ⟨l⟩ := cs
    match l, hs with
    | [c0, c1, c2], _ => exact ⟨c0, c1, c2, rfl⟩
  obtain ⟨fuel, hf⟩ := h
  obtain ⟨y0, y1, y2, n, hx, -, h0, h1, h2⟩ := trod_struct3 Tryd.underlying25 hf
  rw [show Tryd.prog.cellsOf 22 = 1 by kernel_rfl] at h0
  rw [show Tryd.prog.cellsOf 23 = 1 by kernel_rfl] at h1
  rw [show Tryd.prog.cellsOf 3 = 1 by kernel_rfl] at h2
  simp [Value.cells] at h0 h1 h2
  obtain ⟨N, A, cp, rfl, hN1, hN2, hN3⟩ := lgrows_open (k := 5) Tryd.underlying22 (by kernel_rfl) (by decide) (fun h => node_cells h) h0
  obtain ⟨Ls, A', cp', rfl, hL1, hL2, hL3⟩ := lgrows_open (k := 2) Tryd.underlying23 (by kernel_rfl) (by decide) (fun h => let_cells h) h1
  obtain ⟨m, e2, -, -⟩ := DataW.trod_int Tryd.underlying3 h2
  obtain rfl : c2 = .int .i64 m := by simpa using e2
  obtain rfl : d = .agg [y0.1, y1.1, y2.1] := (Prod.mk.inj hx).1
  have hb1 : Tryd.prog.bytesOf 38 = 48 := by kernel_rfl
  have hb2 : Tryd.prog.bytesOf 40 = 24 := by kernel_rfl
  have hw : ∀ x, x ∈ DataW.weights Tryd.prog 25 (.agg [y0.1, y1.1, y2.1] : DataW H) → x ≤ 140737488351232 := fun x hx => by
    have := List.all_eq_true.1 hsz _ (DataW.weights_mem_each ht hd x hx)
    simpa [show reachBytes = 140737488351232 from rfl] using this
  refine ⟨_, _, m, N, Ls, rfl, ⟨A, cp, rfl, hN1⟩, ⟨A', cp', rfl, hL1⟩, hN2, hL2, ?_, ?_⟩
  · rcases hN3 with rfl | ⟨es, sp, e, hl⟩
    · simp
    · have := hw ((es.length + sp.length) * 48) (by rw [e]; simp [DataW.weights, Tryd.underlying25, DataW.weightsEach, Tryd.underlying22, hb1])
      omega
  · rcases hL3 with rfl | ⟨es, sp, e, hl⟩
    · simp
    · have := hw ((es.length + sp.length) * 24) (by rw [e]; simp [DataW.weights, Tryd.underlying25, DataW.weightsEach, Tryd.underlying23, hb2])
      omega
end
/-! What is listed. -/
theorem laid_mem {P : Program} {w : World} {n : String} {d : DataW Unit} : ∀ {l : List (String × DataW Unit)} {ps : List MemPlace}, DataW.LaidVars P w l ps → (n, d) ∈ l →
    ∃ g t cs fuel p, P.globalNamed n = some g ∧ (P.globals[g]?).map (·.type) = some t ∧ w.var? P n = some cs ∧ DataW.trod (fun _ => ()) P w 0 (fun _ => true) false fuel t cs.toList = some (d, p)
  | [], _, _, h => by cases h
  | (n', d') :: l, ps, ⟨g, t, cs, fuel, p, q, h1, h2, h3, h4, h5, _⟩, h => by
    rcases List.mem_cons.1 h with h | h
    · injection h with e1 e2
      subst e1
      subst e2
      exact ⟨g, t, cs, fuel, p, h1, h2, h3, h4⟩
    · exact laid_mem h5 h
theorem iface_cells {H : Type} {enc : TypeId × Value → H} {P : Program} {w : World} {base : Nat} {sp : Nat → Bool} {held : Bool} {fuel : Nat} {t : TypeId} {ms : Array (String × TypeId)} {cs : List Value} {x : DataW H × List MemPlace}
    (hi : P.underlying t = some (.interface ms)) (h : DataW.trod enc P w base sp held fuel t cs = some x) : cs = [.nilIface] ∨ ∃ u v, cs = [.iface u v] := by
  cases fuel with
  | zero => simp [DataW.trod] at h
  | succ n =>
    rcases cs with _ | ⟨c, _ | ⟨c2, r⟩⟩
    · simp [DataW.trod, hi] at h
    · cases c <;> simp [DataW.trod, hi] at h <;> simp
    · cases c <;> simp [DataW.trod, hi] at h
theorem laid_err {P : Program} {w : World} {l : List (String × DataW Unit)} {n : String} {d : DataW Unit} {g : Nat} {t : TypeId} {ms : Array (String × TypeId)} (h : laidMet P l w) (hm : (n, d) ∈ l) (hg : P.globalNamed n = some g) (ht : (P.globals[g]?).map (·.type) = some t) (hi : P.underlying t = some (.interface ms)) : (itErr g).P w := by
  obtain ⟨ps, hv, -, -⟩ := h
  obtain ⟨g', t', cs, fuel, p, h1, h2, h3, h4⟩ := laid_mem hv hm
  obtain rfl := Option.some.inj (hg.symm.trans h1)
  obtain rfl := Option.some.inj (ht.symm.trans h2)
  have hc := World.var?_cell h1 h3 0
  rcases iface_cells hi h4 with e | ⟨u, v, e⟩
  · refine ⟨.nilIface, ?_, .inl rfl⟩
    rw [hc, ← Array.getElem?_toList, e]; rfl
  · refine ⟨.iface u v, ?_, .inr ⟨_, _, rfl⟩⟩
    rw [hc, ← Array.getElem?_toList, e]; rfl
theorem laid_tab {P : Program} {w : World} {l : List (String × DataW Unit)} {n : String} {k : IntKind} {zs : List Int} {g : Nat} {t e : TypeId} {m : Nat} (h : laidMet P l w) (hm : (n, Lib.tabData k zs) ∈ l) (hg : P.globalNamed n = some g) (hty : (P.globals[g]?).map (·.type) = some t) (ht : P.underlying t = some (.array m e)) (he : P.underlying e = some (.int k)) (hce : P.cellsOf e = 1) (hct : P.cellsOf t = m) : Lib.TabIs P w n k zs := by
  obtain ⟨ps, hv, -, -⟩ := h
  obtain ⟨g', t', cs, fuel, p, h1, h2, h3, h4⟩ := laid_mem hv hm
  obtain rfl := Option.some.inj (hg.symm.trans h1)
  obtain rfl := Option.some.inj (hty.symm.trans h2)
  unfold Lib.TabIs
  rw [h3, ← Lib.cells_of_tab ht he hce hct h4]
/-- What a row's list gives. -/
theorem env_laid {w : World} {l : List (String × DataW Unit)} {d1 d2 : DataW Unit} (h : laidMet Tryd.prog l w) (h0 : ("strings.asciiSpace", Lib.tabData .u8 Lib.asciiSpaceTab) ∈ l) (h1 : ("strconv.ErrSyntax", d1) ∈ l) (h2 : ("strconv.ErrRange", d2) ∈ l) : EnvL w :=
  ⟨laid_tab h h0 (g := 0) (t := 102) (by kernel_rfl) (by kernel_rfl) Tryd.underlying102 Tryd.underlying5 (by kernel_rfl) (by kernel_rfl),
   laid_err h h1 (t := 73) (by kernel_rfl) (by kernel_rfl) Tryd.underlying73, laid_err h h2 (t := 73) (by kernel_rfl) (by kernel_rfl) Tryd.underlying73⟩
end Go.Proofs.YtnaadajcehfmiaaDoor
