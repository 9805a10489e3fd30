import Derived.Test.YtoaggmegmgdgbaaGreatSGaps
import Derived.Test.YtoaggmegmgdgbaaGreatLeavF
namespace Go.Proofs.YtoaggmegmgdgbaaGreat
open Go.RowKit Go.Sort Go.Maps
theorem gapsL_bd {L : List Lf} (hlen : L.length ≤ 4096) : (gapsL L).length ≤ 8192 ∧ ∀ x, x ∈ gapsL L → x.length ≤ 8192 := by
  by_cases h : L = []
  · subst h
    exact ⟨by decide, fun x hx => by
      have : x = [((0, 1), (0, 1))] := by simpa [gapsL] using hx
      rw [this]; decide⟩
  · rw [gapsL_form h]
    have hE : (endsR L).length ≤ 8192 := by
      have h1 := riseL_len (endsL L)
      rw [endsL_len] at h1
      unfold endsR
      omega
    refine ⟨?_, fun x hx => Nat.le_trans (grpG_ilen _ x hx) hE⟩
    rw [grpG_len]
    exact Nat.le_trans (repsG_len _) hE
set_option maxRecDepth 100000 in
set_option maxHeartbeats 2000000 in
theorem lGaps_empty (B x : Nat) (v : Value) (w : World) (hS : LamS w B x v []) :
    Calls Tryz.prog 28 #[.pointer (some ⟨x, 0, none⟩)] w (fun e w' => ∃ v' vs, e = .returned v' ∧ NestP w' w.heap.size 71 74 6 leafE [] v' vs (gapsL []) ∧ Below w.heap.size w w') := by
  obtain ⟨A, c, rfl, hA⟩ := LRow.form hS.lam.row
  have hN : Hid (∀ W, Blk W x 103 #[.bool true, .slice A ([] : List Lf).length c] → Calls Tryz.prog 76 #[.pointer (some ⟨x, 0, none⟩)] W (RetVal (.bool false) W)) := Lib.hid (fun W h => lnone_any x true _ W h)
  have hLm := Lib.hid hS.lam
  have hB := Lib.hid (Below.refl w.heap.size w)
  clear hS hA
  simp only [List.length_nil] at hLm hN ⊢
  go_enter Tryz.func28, Tryz.ntmps28
  go_wp2_with fail
  refine (hN.out _ hLm.out.blk).mono ?_
  rintro en w2 ⟨rfl, hb⟩
  replace hB := Lib.hid (hB.out.trans (hb.mono hB.out.size))
  replace hLm := Lib.hid (hLm.out.below hb)
  clear hb hN
  go_upto_region 4 with fail
  have k1 := Lib.hid (Blk.new w2 26 #[.bool false, .string ⟨#[]⟩, .string ⟨#[1]⟩])
  replace hB := Lib.hid (hB.out.alloc hB.out.size (.cells #[.bool false, .string ⟨#[]⟩, .string ⟨#[1]⟩] 26))
  replace hLm := Lib.hid (hLm.out.alloc (.cells #[.bool false, .string ⟨#[]⟩, .string ⟨#[1]⟩] 26))
  generalize hW : w2.alloc (.cells #[.bool false, .string ⟨#[]⟩, .string ⟨#[1]⟩] 26) = w3 at hB hLm k1 ⊢
  generalize hgg : w2.heap.size = g1 at k1 ⊢
  clear hW hgg
  have y1 : w3.cell? ⟨x, 1, none⟩ = some (.slice A 0 c) := hLm.out.blk.cell 1
  have b0 : w3.cell? ⟨g1, 0, none⟩ = some (.bool false) := k1.out.cell 0
  have b1 : w3.cell? ⟨g1, 1, none⟩ = some (.string ⟨#[]⟩) := k1.out.cell 1
  have b2 : w3.cell? ⟨g1, 2, none⟩ = some (.string ⟨#[1]⟩) := k1.out.cell 2
  clear k1 hLm
  go_wp2_with fail
  go_ret
  have kA := Blk.new w3 74 #[.bool false, .string ⟨#[]⟩, .string ⟨#[1]⟩, .bool false, .string ⟨#[]⟩, .string ⟨#[1]⟩]
  have kO := Blk.new (w3.alloc (.cells #[.bool false, .string ⟨#[]⟩, .string ⟨#[1]⟩, .bool false, .string ⟨#[]⟩, .string ⟨#[1]⟩] 74)) 71 #[.slice (some ⟨w3.heap.size, 0, none⟩) 1 1]
  have s0 : Sep w3 ([] : List It) := Sep.nil
  have s1 := s0.newR (a := itRow w.heap.size 74 6 (.slice (some ⟨w3.heap.size, 0, none⟩) 1 1) 1 (leafE ((0, 1), (0, 1)))) (World.grownBy_alloc w3 (.cells #[.bool false, .string ⟨#[]⟩, .string ⟨#[1]⟩, .bool false, .string ⟨#[]⟩, .string ⟨#[1]⟩] 74) none) (own_blk kA rfl hB.out.size (by unfold maxLen; omega)) (fun k hk => by have hk : some w3.heap.size = some k := hk; injection hk with hk; omega)
  rw [World.size_alloc] at kO
  have s2 := s1.new (a := itRow w.heap.size 71 1 (.slice (some ⟨w3.heap.size + 1, 0, none⟩) 1 1) 1 [.slice (some ⟨w3.heap.size, 0, none⟩) 1 1]) (World.grownBy_alloc _ (.cells #[.slice (some ⟨w3.heap.size, 0, none⟩) 1 1] 71) none) (own_blk kO rfl (by have := hB.out.size; omega) (by unfold maxLen; omega)) (fun k hk => by have hk : some (w3.heap.size + 1) = some k := hk; injection hk with hk; simp; omega)
  exact ⟨_, [.slice (some ⟨w3.heap.size, 0, none⟩) 1 1], rfl, ⟨rfl, s2⟩, (hB.out.alloc hB.out.size _).alloc (by have := hB.out.size; simp; omega) _⟩
theorem lGaps_any (B x : Nat) (v : Value) (L : List Lf) (w : World) (hS : LamS w B x v L) :
    Calls Tryz.prog 28 #[.pointer (some ⟨x, 0, none⟩)] w (fun e w' => ∃ v' vs, e = .returned v' ∧ NestP w' w.heap.size 71 74 6 leafE [] v' vs (gapsL L) ∧ Below w.heap.size w w') := by
  by_cases h : L = []
  · subst h
    exact lGaps_empty B x v w hS
  · refine (lGaps_some B x v L w hS.lam hS.ok.ang hS.len h).mono ?_
    rintro e w' ⟨v', vs, rfl, h1, h2⟩
    exact ⟨v', vs, rfl, h1.out, h2.out⟩
def Marks (lo : Nat) (ds : List Deferred) (w : World) : Prop := ∃ Ds : List Nat, ds = Ds.map (fun D => { target := .collected D, args := #[] }) ∧ Ds.Nodup ∧ ∀ D, D ∈ Ds → lo ≤ D ∧ w.heap[D]? = some (.deferred (some []))
theorem Marks.nil (lo : Nat) (w : World) : Marks lo [] w := ⟨[], rfl, List.nodup_nil, fun _ h => absurd h (by simp)⟩
theorem Marks.keep {lo : Nat} {ds : List Deferred} {w w' : World} (h : Marks lo ds w) (hk : ∀ k : Nat, w.heap[k]? = some (.deferred (some [])) → w'.heap[k]? = w.heap[k]?) : Marks lo ds w' := by
  obtain ⟨Ds, h1, h2, h3⟩ := h
  exact ⟨Ds, h1, h2, fun D hD => ⟨(h3 D hD).1, (hk D (h3 D hD).2).trans (h3 D hD).2⟩⟩
theorem heap_some_lt {w : World} {k : Nat} {o : Obj} (h : w.heap[k]? = some o) : k < w.heap.size := by
  rcases Nat.lt_or_ge k w.heap.size with h1 | h1
  · exact h1
  · rw [Array.getElem?_eq_none h1] at h; cases h
theorem Marks.below {lo : Nat} {ds : List Deferred} {w w' : World} (h : Marks lo ds w) (hb : Below w.heap.size w w') : Marks lo ds w' := h.keep (fun k hk => hb.block k (heap_some_lt hk))
theorem Marks.cons {lo D : Nat} {ds : List Deferred} {w : World} (h : Marks lo ds w) (hD : w.heap[D]? = some (.deferred (some []))) (hlo : lo ≤ D) (hn : ∀ Ds : List Nat, ds = Ds.map (fun D => { target := .collected D, args := #[] }) → D ∉ Ds) : Marks lo ({ target := .collected D, args := #[] } :: ds) w := by
  obtain ⟨Ds, h1, h2, h3⟩ := h
  refine ⟨D :: Ds, by rw [h1]; rfl, List.nodup_cons.2 ⟨hn Ds h1, h2⟩, fun E hE => ?_⟩
  rcases List.mem_cons.1 hE with rfl | hE
  · exact ⟨hlo, hD⟩
  · exact h3 E hE
theorem leaves_many {P : Program} {fn : Func} {tmps : Array Value} {R : Ending → World → Prop} {v : Value} {lo : Nat} : ∀ {ds : List Deferred} {W : World}, Marks lo ds W →
    (∀ W' : World, W'.os = W.os → W'.tape = W.tape → W'.output = W.output → W.heap.size ≤ W'.heap.size → (∀ k, W.heap[k]? ≠ some (.deferred (some [])) ∨ k < lo → W'.heap[k]? = W.heap[k]?) → (results fn tmps).run P W' = .ok v W' ∧ R (.returned v) W') →
    LeavesInM Fence.wide 0 P fn tmps R ds .returning W := by
  intro ds W ⟨Ds, h1, h2, h3⟩ hf
  induction Ds generalizing ds W with
  | nil =>
    subst h1
    obtain ⟨e1, e2⟩ := hf W rfl rfl rfl (Nat.le_refl _) (fun _ _ => rfl)
    exact ⟨_, e1, e2⟩
  | cons D r ih =>
    subst h1
    obtain ⟨hlo, hD⟩ := h3 D (List.mem_cons_self ..)
    rw [List.nodup_cons] at h2
    have hoth : ∀ k, k ≠ D → (W.putObj D (.deferred none)).heap[k]? = W.heap[k]? := fun k hk => World.putObj_heap_other hk
    refine ⟨by simp, .inl ⟨_, _, rfl, run_takeDeferred hD, ih rfl h2.2 (fun E hE => ?_) ?_⟩⟩
    · have hne : E ≠ D := fun e => h2.1 (e ▸ hE)
      obtain ⟨q1, q2⟩ := h3 E (List.mem_cons_of_mem _ hE)
      exact ⟨q1, (hoth E hne).trans q2⟩
    · intro W' a1 a2 a3 a4 a5
      refine hf W' a1 a2 a3 (by simpa using a4) (fun k hk => ?_)
      have hne : k ≠ D := by
        rintro rfl
        rcases hk with hk | hk
        · exact hk hD
        · omega
      rw [a5 k (by rcases hk with hk | hk; exact .inl (by rw [hoth k hne]; exact hk); exact .inr hk), hoth k hne]
theorem own_neT {w : World} {B1 B2 : Nat} {e1 e2 : TypeId} {s1 s2 n1 n2 : Nat} {v1 v2 : Value} {x1 x2 : List Value} (h1 : w.ownsRow B1 e1 s1 v1 n1 x1) (h2 : w.ownsRow B2 e2 s2 v2 n2 x2) (hne : e1 ≠ e2) : ∀ k, v1.ownBlock = some k → v2.ownBlock ≠ some k := fun k hk1 hk2 => by
  rcases h1.2 with ⟨rfl, -⟩ | ⟨g, c1, u1, rfl, -, q1, -⟩
  · simp [Value.ownBlock] at hk1
  rcases h2.2 with ⟨rfl, -⟩ | ⟨g', c2, u2, rfl, -, q2, -⟩
  · simp [Value.ownBlock] at hk2
  simp [Value.ownBlock] at hk1 hk2
  subst hk1
  subst hk2
  rw [q1] at q2
  injection q2 with q2
  injection q2 with _ q2
  exact hne q2
theorem own_neB {w : World} {B g : Nat} {e T : TypeId} {s n : Nat} {v : Value} {x : List Value} {cs : Array Value} (h : w.ownsRow B e s v n x) (k : Blk w g T cs) (hne : e ≠ T) : v.ownBlock ≠ some g := fun hk => by
  rcases h.2 with ⟨rfl, -⟩ | ⟨g', c, u, rfl, -, q, -⟩
  · simp [Value.ownBlock] at hk
  simp [Value.ownBlock] at hk
  subst hk
  rw [show w.heap[g']? = _ from k] at q
  injection q with q
  injection q with _ q
  exact hne q.symm
theorem blk_neB {w : World} {g g' : Nat} {T T' : TypeId} {cs cs' : Array Value} (h : Blk w g T cs) (k : Blk w g' T' cs') (hT : T ≠ T') : g ≠ g' := fun e => by
  subst e
  have h1 := (show w.heap[g]? = _ from h).symm.trans k
  injection h1 with h1
  injection h1 with h1 h2 h3
  exact hT h2
theorem own_notD {w : World} {B : Nat} {e : TypeId} {s n k : Nat} {v : Value} {x : List Value} {o : Obj} (h : w.ownsRow B e s v n x) (hk : w.heap[k]? = some (.deferred (some []))) : v.ownBlock ≠ some k := fun hv => by
  rcases h.2 with ⟨rfl, -⟩ | ⟨g', c, u, rfl, -, q, -⟩
  · simp [Value.ownBlock] at hv
  simp [Value.ownBlock] at hv
  subst hv
  rw [hk] at q
  injection q with q
  injection q
theorem blk_notD {w : World} {g k : Nat} {T : TypeId} {cs : Array Value} (h : Blk w g T cs) (hk : w.heap[k]? = some (.deferred (some []))) : g ≠ k := fun e => by
  subst e
  have h1 := (show w.heap[g]? = _ from h).symm.trans hk
  injection h1 with h1
  injection h1
theorem RRow.butT {A B : World} {r : Nat → Prop} {base : Nat} {v : Value} {L : List Lf} (h : RRow A base v L) (hb : But r A B) (hr : ∀ k, v.ownBlock = some k → ¬ r k) : RRow B base v L := by
  obtain ⟨h1, h2⟩ := h
  refine ⟨h1, h2.imp id ?_⟩
  rintro ⟨g, cap, cur, rfl, hbs, hg, rest⟩
  exact ⟨g, cap, cur, rfl, hbs, (hb.block g (heap_some_lt hg) (hr g rfl)).trans hg, rest⟩
structure PlS (B g2 g4 g6 g7 x : Nat) (vx wv : Value) (L M : List Lf) (st lf : Array Value) (ds : List Deferred) (w W : World) : Prop where
  lam : LamS W B x vx L
  row : RRow W B wv M
  b2 : Blk W g2 4 #[.bool false]
  b4 : Blk W g4 34 #[wv]
  b6 : Blk W g6 91 st
  b7 : Blk W g7 44 lf
  mks : Marks B ds W
  bel : Below B w W
  lo : B ≤ g2 ∧ B ≤ g4 ∧ B ≤ w.heap.size
section
variable {B g2 g4 g6 g7 x : Nat} {vx wv vx' wv' : Value} {L M L' M' : List Lf} {st lf : Array Value} {ds : List Deferred} {w W W' : World}
theorem PlS.below (h : PlS B g2 g4 g6 g7 x vx wv L M st lf ds w W) (hb : Below W.heap.size W W') : PlS B g2 g4 g6 g7 x vx wv L M st lf ds w W' :=
  ⟨h.lam.below hb, RRow.below h.row hb, h.b2.below hb, h.b4.below hb, h.b6.below hb, h.b7.below hb, h.mks.below hb, h.bel.trans (hb.mono (Nat.le_trans h.lo.2.2 h.bel.size)), h.lo⟩
theorem PlS.alloc (h : PlS B g2 g4 g6 g7 x vx wv L M st lf ds w W) (o : Obj) : PlS B g2 g4 g6 g7 x vx wv L M st lf ds w (W.alloc o) := h.below ((Below.refl _ W).alloc (Nat.le_refl _) o)
theorem PlS.butL (h : PlS B g2 g4 g6 g7 x vx wv L M st lf ds w W) (hb : But (fun k => k = x ∨ vx.ownBlock = some k) W W') (hl : LamS W' B x vx' L') : PlS B g2 g4 g6 g7 x vx' wv L' M st lf ds w W' := by
  have hx := h.lam.lam.blk
  have hv := h.lam.lam.row
  have hk : ∀ {g : Nat} {T : TypeId} {cs : Array Value}, Blk W g T cs → T ≠ 103 → 38 ≠ T → Blk W' g T cs := fun {g T cs} hg h1 h2 => Blk.but hg hb (fun hr => by
    rcases hr with hr | hr
    · exact blk_neB hg hx h1 hr
    · exact own_neB hv hg h2 hr)
  refine ⟨hl, h.row.butT hb (fun k hk hr => ?_), hk h.b2 (by decide) (by decide), hk h.b4 (by decide) (by decide), hk h.b6 (by decide) (by decide), hk h.b7 (by decide) (by decide), h.mks.keep (fun k hk => hb.block k (heap_some_lt hk) (fun hr => ?_)), h.bel.trans (hb.toBelow (Nat.le_trans h.lo.2.2 h.bel.size) (fun k hk hr => ?_)), h.lo⟩
  · rcases hr with rfl | hr
    · exact own_neB (show W.ownsRow B 44 4 wv _ _ from h.row) hx (by decide) hk
    · exact own_neT (show W.ownsRow B 44 4 wv _ _ from h.row) hv (by decide) k hk hr
  · rcases hr with rfl | hr
    · exact blk_notD hx hk rfl
    · exact own_notD (o := .deferred none) hv hk hr
  · rcases hr with rfl | hr
    · have := h.lam.lam.base; omega
    · have := (World.ownsRow.lt hv k hr).1; omega
theorem PlS.store (h : PlS B g2 g4 g6 g7 x vx wv L M st lf ds w W) (hr : RRow W B wv' M') : PlS B g2 g4 g6 g7 x vx wv' L M' st lf ds w (W.setCell ⟨g4, 0, none⟩ wv') := by
  have hne : ∀ {g : Nat} {T : TypeId} {cs : Array Value}, Blk W g T cs → T ≠ 34 → g ≠ g4 := fun hg hT => blk_neB hg h.b4 hT
  have hb : But (fun k => k = g4) W (W.setCell ⟨g4, 0, none⟩ wv') := by
    have q : But (fun k => k = g4) W W := But.refl _ W
    exact q.setCell (p := ⟨g4, 0, none⟩) (Or.inl (rfl : g4 = g4)) wv'
  refine ⟨LamS.but h.lam hb (hne h.lam.lam.blk (by decide)) (fun k hk e => own_neB h.lam.lam.row h.b4 (by decide) (by rw [← e]; exact hk)), hr.butT hb (fun k hk e => own_neB (show W.ownsRow B 44 4 wv' _ _ from hr) h.b4 (by decide) (by rw [← e]; exact hk)), h.b2.far (hne h.b2 (by decide)) _, h.b4.set_ 0 _, h.b6.far (hne h.b6 (by decide)) _, h.b7.far (hne h.b7 (by decide)) _, h.mks.keep (fun k hk => hb.block k (heap_some_lt hk) (fun e => blk_notD h.b4 hk e.symm)), h.bel.setCell (p := ⟨g4, 0, none⟩) h.lo.2.1 _, h.lo⟩
theorem LamS.mono {B' : Nat} {v : Value} (h : LamS W B x v L) (hb : B' ≤ B) : LamS W B' x v L := ⟨⟨h.lam.blk, row_monoL h.lam.row hb, Nat.le_trans hb h.lam.base⟩, h.ok, h.len⟩
theorem PlS.copy {y : Nat} {vy : Value} (h : PlS B g2 g4 g6 g7 x vx wv L M st lf ds w W) (hb : Below W.heap.size W W') (hy : LamS W' W.heap.size y vy L) {W2 : World} {vx2 : Value} {L2 : List Lf} (hb2 : But (fun k => k = x ∨ vx.ownBlock = some k) W' W2) (hx2 : LamS W2 B x vx2 L2) : PlS B g2 g4 g6 g7 y vy wv L M st lf ds w W2 := by
  have h1 := (h.below hb).butL hb2 hx2
  have hBW : B ≤ W.heap.size := Nat.le_trans h.lo.2.2 h.bel.size
  have hxlt := h.lam.lam.blk.lt
  have hy2 : LamS W2 W.heap.size y vy L := LamS.but hy hb2 (fun hr => by
    have h3 := hy.lam.base
    rcases hr with hr | hr
    · omega
    · have := (World.ownsRow.lt h.lam.lam.row _ hr).2; omega) (fun k hk hr => by
    have h3 := (World.ownsRow.lt hy.lam.row k hk).1
    rcases hr with hr | hr
    · omega
    · have := (World.ownsRow.lt h.lam.lam.row _ hr).2; omega)
  exact ⟨hy2.mono hBW, h1.row, h1.b2, h1.b4, h1.b6, h1.b7, h1.mks, h1.bel, h1.lo⟩
end
abbrev RawS := Int × RawL × Int
def encT (r : RawS) : List Value := [.int .i64 r.1] ++ encR r.2.1 ++ [.int .i64 r.2.2]
def szT (r : RawS) : Prop := szR r.2.1
end Go.Proofs.YtoaggmegmgdgbaaGreat
