import Derived.Test.YtoaggmegmgdgbaaGreatLOf
import Derived.Test.YtoaggmegmgdgbaaGreatNestR
namespace Go.Proofs.YtoaggmegmgdgbaaGreat
open Go.RowKit Go.Sort Go.Maps
def Tw (Ts : List TypeId) (W W' : World) : Prop := ∃ S, But S W W' ∧ ∀ k, S k → ∃ T cs, T ∈ Ts ∧ Blk W k T cs
section
variable {W W' : World} {Ts : List TypeId} {B n g : Nat} {T : TypeId} {size : Nat} {v : Value} {xs : List Value} {cs : Array Value} {l : List Nat}
theorem Blk.tw (h : Blk W g T cs) (ht : Tw Ts W W') (hT : T ∉ Ts) : Blk W' g T cs := by
  obtain ⟨S, hb, hS⟩ := ht
  refine Blk.but h hb fun hk => ?_
  obtain ⟨T', cs', h1, h2⟩ := hS g hk
  unfold Blk at h h2
  rw [h] at h2
  injection h2 with h2
  injection h2 with _ h2
  exact hT (h2 ▸ h1)
theorem row_tw (h : W.ownsRow B T size v n xs) (ht : Tw Ts W W') (hT : T ∉ Ts) : W'.ownsRow B T size v n xs := by
  obtain ⟨S, hb, hS⟩ := ht
  refine row_but h hb fun k hk hk2 => ?_
  obtain ⟨T', cs', h1, h2⟩ := hS k hk2
  rcases h.2 with ⟨rfl, -⟩ | ⟨g, cap, cur, rfl, -, hh, -⟩
  · cases hk
  · have hk : some g = some k := hk
    injection hk with hk
    subst hk
    unfold Blk at h2
    rw [hh] at h2
    injection h2 with h2
    injection h2 with _ h2
    exact hT (h2 ▸ h1)
theorem Pf.tw (h : Pf W B v l) (ht : Tw Ts W W') (hT : 5 ∉ Ts) : Pf W' B v l := by
  obtain ⟨S, hb, hS⟩ := ht
  obtain ⟨A, c, rfl, h1, h2, h3⟩ := h
  refine ⟨A, c, rfl, h1, h2, fun hn => ?_⟩
  obtain ⟨g, cur, e, hB, hh, hc⟩ := h3 hn
  refine ⟨g, cur, e, hB, (hb.block g (heap_lt hh) fun hk => ?_).trans hh, hc⟩
  obtain ⟨T', cs', k1, k2⟩ := hS g hk
  unfold Blk at k2
  rw [hh] at k2
  injection k2 with k2
  injection k2 with _ k2
  exact hT (k2 ▸ k1)
theorem row_typ (h : W.ownsRow B T size v n xs) {k : Nat} (hk : v.ownBlock = some k) : ∃ cs, Blk W k T cs := by
  rcases h.2 with ⟨rfl, -⟩ | ⟨g, cap, cur, rfl, -, hh, -⟩
  · cases hk
  · have hk : some g = some k := hk
    injection hk with hk
    subst hk
    exact ⟨cur, hh⟩
end
def encI (r : Value × Value) : List Value := [r.1, r.2]
structure GrS (W : World) (B g8 g9 : Nat) (cs : Array Value) (vr va : Value) (ir : List (Value × Value)) (ps : List PT) (rk : PT → List Nat × List Nat) : Prop where
  by_ : Blk W B 26 cs
  b8 : Blk W g8 178 #[vr]
  b9 : Blk W g9 31 #[va]
  rows : W.ownsRow B 120 2 vr ir.length (ir.flatMap encI)
  all : W.ownsRow B 42 2 va ps.length (ps.flatMap enc2)
  pf : ∀ j, j < ir.length → ∃ b, Pf W b ir[j]!.1 (rk ps[j]!).1 ∧ Pf W b ir[j]!.2 (rk ps[j]!).2
section
variable {W W' W2 : World} {B g8 g9 : Nat} {cs : Array Value} {vr va v' : Value} {ir : List (Value × Value)} {ps : List PT} {rk : PT → List Nat × List Nat}
theorem GrS.below (h : GrS W B g8 g9 cs vr va ir ps rk) (hb : Below W.heap.size W W') : GrS W' B g8 g9 cs vr va ir ps rk :=
  ⟨h.by_.below hb, h.b8.below hb, h.b9.below hb, row_but h.rows (But.of_below (r := fun _ => False) hb) (fun _ _ h => h), row_but h.all (But.of_below (r := fun _ => False) hb) (fun _ _ h => h), fun j hj => by
    obtain ⟨b, h1, h2⟩ := h.pf j hj
    exact ⟨b, h1.below hb, h2.below hb⟩⟩
theorem GrS.twA (h : GrS W B g8 g9 cs vr va ir ps rk) (hg : W.grownBy W2 va.ownBlock) : Tw [42, 31] W (W2.setCell ⟨g9, 0, none⟩ v') :=
  ⟨fun k => va.ownBlock = some k ∨ k = g9, ((But.refl _ W).grown hg (fun _ hk => .inl hk)).setCell (p := ⟨g9, 0, none⟩) (.inl (.inr rfl)) v', fun k hk => by
    rcases hk with hk | rfl
    · obtain ⟨c, h1⟩ := row_typ h.all hk
      exact ⟨_, c, by simp, h1⟩
    · exact ⟨_, _, by simp, h.b9⟩⟩
theorem GrS.twR (h : GrS W B g8 g9 cs vr va ir ps rk) (hg : W.grownBy W2 vr.ownBlock) : Tw [120, 178] W (W2.setCell ⟨g8, 0, none⟩ v') :=
  ⟨fun k => vr.ownBlock = some k ∨ k = g8, ((But.refl _ W).grown hg (fun _ hk => .inl hk)).setCell (p := ⟨g8, 0, none⟩) (.inl (.inr rfl)) v', fun k hk => by
    rcases hk with hk | rfl
    · obtain ⟨c, h1⟩ := row_typ h.rows hk
      exact ⟨_, c, by simp, h1⟩
    · exact ⟨_, _, by simp, h.b8⟩⟩
theorem row_typ_ne {B n g : Nat} {T T' : TypeId} {size : Nat} {v : Value} {xs : List Value} (h : W.ownsRow B T size v n xs) (k : Blk W g T' cs) (hT : T ≠ T') : some g ≠ v.ownBlock := fun e => by
  obtain ⟨c, h1⟩ := row_typ h e.symm
  exact blk_ne h1 k hT rfl
theorem row_set1 {B n g : Nat} {T T' : TypeId} {size : Nat} {v u : Value} {xs : List Value} (h : W.ownsRow B T size v n xs) (k : Blk W g T' cs) (hT : T ≠ T') : (W.setCell ⟨g, 0, none⟩ u).ownsRow B T size v n xs :=
  row_but h ((But.refl (fun q => q = g) W).setCell (p := ⟨g, 0, none⟩) (.inl rfl) u) (fun q hq e => row_typ_ne h k hT (by rw [hq, e]))
theorem GrS.addA {p : PT} (h : GrS W B g8 g9 cs vr va ir ps rk) (hl : ir.length ≤ ps.length) (hg : W.grownBy W2 va.ownBlock) (hown : W2.ownsRow B 42 2 v' (ps.length + 1) (ps.flatMap enc2 ++ enc2 p)) : GrS (W2.setCell ⟨g9, 0, none⟩ v') B g8 g9 cs vr v' ir (ps ++ [p]) rk := by
  have ht : Tw [42, 31] W (W2.setCell ⟨g9, 0, none⟩ v') := h.twA hg
  have k9 : Blk W2 g9 31 #[va] := h.b9.grown hg (row_typ_ne h.all h.b9 (by decide))
  refine ⟨h.by_.tw ht (by decide), h.b8.tw ht (by decide), k9.set_ 0 v', row_tw h.rows ht (by decide), ?_, fun j hj => ?_⟩
  · rw [List.length_append, List.flatMap_append, List.flatMap_singleton]
    exact row_set1 hown k9 (by decide)
  · obtain ⟨b, h1, h2⟩ := h.pf j hj
    have e : (ps ++ [p])[j]! = ps[j]! := by
      rw [getElem!_pos _ j (by rw [List.length_append]; omega), getElem!_pos ps j (by omega), List.getElem_append_left]
    rw [e]
    exact ⟨b, h1.tw ht (by decide), h2.tw ht (by decide)⟩
theorem GrS.addR {r : Value × Value} (h : GrS W B g8 g9 cs vr va ir ps rk) (hg : W.grownBy W2 vr.ownBlock) (hown : W2.ownsRow B 120 2 v' (ir.length + 1) (ir.flatMap encI ++ encI r)) {b : Nat} (h1 : Pf W b r.1 (rk ps[ir.length]!).1) (h2 : Pf W b r.2 (rk ps[ir.length]!).2) : GrS (W2.setCell ⟨g8, 0, none⟩ v') B g8 g9 cs v' va (ir ++ [r]) ps rk := by
  have ht : Tw [120, 178] W (W2.setCell ⟨g8, 0, none⟩ v') := h.twR hg
  have k8 : Blk W2 g8 178 #[vr] := h.b8.grown hg (row_typ_ne h.rows h.b8 (by decide))
  refine ⟨h.by_.tw ht (by decide), k8.set_ 0 v', h.b9.tw ht (by decide), ?_, row_tw h.all ht (by decide), fun j hj => ?_⟩
  · rw [List.length_append, List.flatMap_append, List.flatMap_singleton]
    exact row_set1 hown k8 (by decide)
  · rw [List.length_append, List.length_singleton] at hj
    rcases Nat.lt_or_ge j ir.length with hlt | hge
    · obtain ⟨b, h1, h2⟩ := h.pf j hlt
      have e : (ir ++ [r])[j]! = ir[j]! := by
        rw [getElem!_pos _ j (by rw [List.length_append]; omega), getElem!_pos ir j hlt, List.getElem_append_left]
      rw [e]
      exact ⟨b, h1.tw ht (by decide), h2.tw ht (by decide)⟩
    · obtain rfl : j = ir.length := by omega
      have e : (ir ++ [r])[ir.length]! = r := by
        rw [getElem!_pos _ ir.length (by rw [List.length_append]; simp)]
        simp
      rw [e]
      exact ⟨b, h1.tw ht (by decide), h2.tw ht (by decide)⟩
end
theorem mkB_inj {l m : List Nat} (hl : ∀ x, x ∈ l → x < 256) (hm : ∀ x, x ∈ m → x < 256) (h : mkB l = mkB m) : l = m := by
  unfold mkB at h
  injection h with h
  injection h with h
  have e : ∀ k : List Nat, (∀ x, x ∈ k → x < 256) → (k.map UInt8.ofNat).map UInt8.toNat = k := fun k hk => by
    rw [List.map_map]
    conv => rhs; rw [← List.map_id k]
    refine List.map_congr_left fun x hx => ?_
    show (UInt8.ofNat x).toNat = x
    rw [UInt8.toNat_ofNat']
    exact Nat.mod_eq_of_lt (hk x hx)
  rw [← e l hl, h, e m hm]
set_option maxRecDepth 100000 in
set_option maxHeartbeats 2000000 in
theorem lsameRows_any (A1 A2 A3 A4 : Option Addr) (n1 n2 n3 n4 c1 c2 c3 c4 : Nat) (B B' : Nat) (P Q P' Q' : List Nat) (w : World) (h1 : Pf w B (.slice A1 n1 c1) P) (h2 : Pf w B (.slice A2 n2 c2) Q) (h3 : Pf w B' (.slice A3 n3 c3) P') (h4 : Pf w B' (.slice A4 n4 c4) Q') (hP : ∀ x, x ∈ P → x < 256) (hQ : ∀ x, x ∈ Q → x < 256) (hP' : ∀ x, x ∈ P' → x < 256) (hQ' : ∀ x, x ∈ Q' → x < 256) :
    Calls Tryz.prog 59 #[.agg #[.slice A1 n1 c1, .slice A2 n2 c2], .agg #[.slice A3 n3 c3, .slice A4 n4 c4]] w (RetVal (.bool (decide ((P, Q) = (P', Q')))) w) := by
  have k0 := (Blk.new w 120 #[.slice A1 n1 c1, .slice A2 n2 c2]).alloc (.cells #[.slice A3 n3 c3, .slice A4 n4 c4] 120)
  have k1 := Blk.new (w.alloc (.cells #[.slice A1 n1 c1, .slice A2 n2 c2] 120)) 120 #[.slice A3 n3 c3, .slice A4 n4 c4]
  simp only [World.size_alloc] at k1
  have hB := Lib.hid (show Below w.heap.size w ((w.alloc (.cells #[.slice A1 n1 c1, .slice A2 n2 c2] 120)).alloc (.cells #[.slice A3 n3 c3, .slice A4 n4 c4] 120)) from ((Below.refl _ w).alloc (Nat.le_refl _) _).alloc (by simp) _)
  have e1 := conv_pf ((h1.alloc (.cells #[.slice A1 n1 c1, .slice A2 n2 c2] 120)).alloc (.cells #[.slice A3 n3 c3, .slice A4 n4 c4] 120)) hP
  have e2 := conv_pf ((h2.alloc (.cells #[.slice A1 n1 c1, .slice A2 n2 c2] 120)).alloc (.cells #[.slice A3 n3 c3, .slice A4 n4 c4] 120)) hQ
  have e3 := conv_pf ((h3.alloc (.cells #[.slice A1 n1 c1, .slice A2 n2 c2] 120)).alloc (.cells #[.slice A3 n3 c3, .slice A4 n4 c4] 120)) hP'
  have e4 := conv_pf ((h4.alloc (.cells #[.slice A1 n1 c1, .slice A2 n2 c2] 120)).alloc (.cells #[.slice A3 n3 c3, .slice A4 n4 c4] 120)) hQ'
  have hr : decide ((P, Q) = (P', Q')) = (decide (mkB P = mkB P') && decide (mkB Q = mkB Q')) := by
    rw [← Bool.decide_and]
    exact decide_eq_decide.2 ⟨fun h => by injection h with h1 h2; rw [h1, h2]; exact ⟨rfl, rfl⟩, fun h => by rw [mkB_inj hP hP' h.1, mkB_inj hQ hQ' h.2]⟩
  rw [hr]
  obtain ⟨sp, hsp⟩ : ∃ s, s = mkB P := ⟨_, rfl⟩
  obtain ⟨sq, hsq⟩ : ∃ s, s = mkB Q := ⟨_, rfl⟩
  obtain ⟨sp', hsp'⟩ : ∃ s, s = mkB P' := ⟨_, rfl⟩
  obtain ⟨sq', hsq'⟩ : ∃ s, s = mkB Q' := ⟨_, rfl⟩
  rw [← hsp] at e1 ⊢
  rw [← hsp'] at e3 ⊢
  rw [← hsq] at e2 ⊢
  rw [← hsq'] at e4 ⊢
  clear h1 h2 h3 h4 hP hQ hP' hQ' hsp hsq hsp' hsq' hr
  go_enter Tryz.func59, Tryz.ntmps59
  go_upto_region 1 with fail
  generalize hW : (w.alloc (.cells #[.slice A1 n1 c1, .slice A2 n2 c2] 120)).alloc (.cells #[.slice A3 n3 c3, .slice A4 n4 c4] 120) = w1 at k0 k1 hB e1 e2 e3 e4 ⊢
  clear hW
  have a0 : w1.cell? ⟨w.heap.size, 0, none⟩ = some (.slice A1 n1 c1) := k0.cell 0
  have a1 : w1.cell? ⟨w.heap.size, 1, none⟩ = some (.slice A2 n2 c2) := k0.cell 1
  have a2 : w1.cell? ⟨w.heap.size + 1, 0, none⟩ = some (.slice A3 n3 c3) := k1.cell 0
  have a3 : w1.cell? ⟨w.heap.size + 1, 1, none⟩ = some (.slice A4 n4 c4) := k1.cell 1
  clear k0 k1
  by_cases hp : sp.toList = sp'.toList
  case pos =>
    obtain rfl : sp = sp' := ba_eqB hp
    by_cases hq : sq.toList = sq'.toList
    case pos =>
      obtain rfl : sq = sq' := ba_eqB hq
      clear hp hq
      go_wp2_with fail
      go_ret
      exact ⟨by simp, hB.out⟩
    case neg =>
      have hqb : (sq.toList == sq'.toList) = false := by rw [Bool.eq_false_iff]; intro h; exact hq (by simpa using h)
      have hqd : ¬ sq = sq' := fun h => hq (by rw [h])
      clear hp
      go_wp2_with fail
      go_ret
      exact ⟨by simp [hqd], hB.out⟩
  case neg =>
    have hpb : (sp.toList == sp'.toList) = false := by rw [Bool.eq_false_iff]; intro h; exact hp (by simpa using h)
    have hpd : ¬ sp = sp' := fun h => hp (by rw [h])
    go_wp2_with fail
    go_ret
    exact ⟨by simp [hpd], hB.out⟩
set_option maxRecDepth 100000 in
set_option maxHeartbeats 4000000 in
theorem lrow_any (B g8 g9 : Nat) (cs : Array Value) (vr va : Value) (ir : List (Value × Value)) (ps : List PT) (rk : PT → List Nat × List Nat) (w : World) (h : GrS w B g8 g9 cs vr va ir ps rk) (hl : ir.length = ps.length) (hlen : ps.length ≤ 8192) (p : PT) (j : Nat) (hj : j < ps.length) (hp : ps[j]! = p) (hfirst : ∀ i, i < j → ps[i]! ≠ p) :
    Calls Tryz.prog 98 #[.agg #[.int .u64 (p.1 : Int), .int .u64 (p.2 : Int)], .pointer (some ⟨g9, 0, none⟩), .pointer (some ⟨g8, 0, none⟩)] w (RetVal (.agg #[ir[j]!.1, ir[j]!.2]) w) := by
  obtain ⟨n, hn⟩ : ∃ n, n = ps.length := ⟨_, rfl⟩
  have hil : ir.length = n := by omega
  have hk0 : Hid (GrS ((w.alloc (.cells #[.int .u64 (p.1 : Int), .int .u64 (p.2 : Int)] 42)).alloc (.cells #[.slice none 0 0, .slice none 0 0] 120)) B g8 g9 cs vr va ir ps rk) := Lib.hid (h.below (((Below.refl w.heap.size w).alloc (Nat.le_refl _) (.cells #[.int .u64 (p.1 : Int), .int .u64 (p.2 : Int)] 42)).alloc (by simp) (.cells #[.slice none 0 0, .slice none 0 0] 120)))
  have hjn : j < n := by omega
  obtain ⟨Ar, cr, rfl, -, hAr⟩ := own_form h.rows
  obtain ⟨Aa, ca, rfl, -, hAa⟩ := own_form h.all
  obtain ⟨ga, rfl⟩ := hAa (by omega)
  obtain ⟨gr, rfl⟩ := hAr (by omega)
  rw [hil] at hk0 h
  rw [← hn] at hk0 h
  have hB := Lib.hid (show Below w.heap.size w ((w.alloc (.cells #[.int .u64 (p.1 : Int), .int .u64 (p.2 : Int)] 42)).alloc (.cells #[.slice none 0 0, .slice none 0 0] 120)) from ((Below.refl w.heap.size w).alloc (Nat.le_refl _) (.cells #[.int .u64 (p.1 : Int), .int .u64 (p.2 : Int)] 42)).alloc (by simp) (.cells #[.slice none 0 0, .slice none 0 0] 120))
  have kA := Lib.hid ((Blk.new w 42 #[.int .u64 (p.1 : Int), .int .u64 (p.2 : Int)]).alloc (.cells #[.slice none 0 0, .slice none 0 0] 120))
  have kI := Lib.hid (Blk.new (w.alloc (.cells #[.int .u64 (p.1 : Int), .int .u64 (p.2 : Int)] 42)) 120 #[.slice none 0 0, .slice none 0 0])
  rw [World.size_alloc] at kI
  clear hAr hAa
  have hci : Hid (∀ W, GrS W B g8 g9 cs (.slice (some ⟨gr, 0, none⟩) n cr) (.slice (some ⟨ga, 0, none⟩) n ca) ir ps rk → W.cell? ⟨g8, 0, none⟩ = some (.slice (some ⟨gr, 0, none⟩) n cr) ∧ W.cell? ⟨g9, 0, none⟩ = some (.slice (some ⟨ga, 0, none⟩) n ca) ∧ (∀ i, i < n → W.cell? ⟨ga, i * 2, none⟩ = some (.int .u64 (ps[i]!.1 : Int)) ∧ W.cell? ⟨ga, i * 2 + 1, none⟩ = some (.int .u64 (ps[i]!.2 : Int))) ∧ ∀ i, i < n → W.cell? ⟨gr, i * 2, none⟩ = some ir[i]!.1 ∧ W.cell? ⟨gr, i * 2 + 1, none⟩ = some ir[i]!.2) := Lib.hid (fun W k => by
    have k1 := k.all
    have k2 := k.rows
    refine ⟨k.b8.cell 0, k.b9.cell 0, fun i hi => ?_, fun i hi => ?_⟩
    · rw [← hn] at k1
      have e0 := flatMap_get enc2 2 (fun _ => rfl) ps i 0 (by omega) (by omega)
      have e1 := flatMap_get enc2 2 (fun _ => rfl) ps i 1 (by omega) (by omega)
      rw [← getElem!_pos ps i (by omega)] at e0 e1
      exact ⟨by rw [show i * 2 = i * 2 + 0 from rfl, World.ownsRow.cellAt k1 _ (by omega)]; exact e0, by rw [World.ownsRow.cellAt k1 _ (by omega)]; exact e1⟩
    · rw [hil] at k2
      have e0 := flatMap_get encI 2 (fun _ => rfl) ir i 0 (by omega) (by omega)
      have e1 := flatMap_get encI 2 (fun _ => rfl) ir i 1 (by omega) (by omega)
      rw [← getElem!_pos ir i (by omega)] at e0 e1
      exact ⟨by rw [show i * 2 = i * 2 + 0 from rfl, World.ownsRow.cellAt k2 _ (by omega)]; exact e0, by rw [World.ownsRow.cellAt k2 _ (by omega)]; exact e1⟩)
  have hlen2 := hlen
  rw [← hn] at hlen2
  replace hn := Lib.hid hn
  replace hil := Lib.hid hil
  clear h hl hlen hj
  obtain ⟨rv, hrv⟩ : ∃ r, r = ir[j]! := ⟨_, rfl⟩
  rw [← hrv]
  replace hrv := Lib.hid hrv
  go_enter Tryz.func98, Tryz.ntmps98
  go_upto_region 1 with fail
  generalize hW : (w.alloc (.cells #[.int .u64 (p.1 : Int), .int .u64 (p.2 : Int)] 42)).alloc (.cells #[.slice none 0 0, .slice none 0 0] 120) = w1 at hk0 hB kA kI ⊢
  clear hW
  go_wp2_with fail
  go_loopg [5] n (fun kx s5 wr => ∃ i : Nat, s5 = .int .i64 (i : Int) ∧ i ≤ j ∧ n - i ≤ kx ∧ Hid (GrS wr B g8 g9 cs (.slice (some ⟨gr, 0, none⟩) n cr) (.slice (some ⟨ga, 0, none⟩) n ca) ir ps rk) ∧ Hid (Blk wr w.heap.size 42 #[.int .u64 (p.1 : Int), .int .u64 (p.2 : Int)]) ∧ Hid (Blk wr (w.heap.size + 1) 120 #[.slice none 0 0, .slice none 0 0]) ∧ Hid (Below w.heap.size w wr))
  case atStart => exact ⟨0, rfl, Nat.zero_le _, Nat.le_refl _, hk0, kA, kI, hB⟩
  case round =>
    clear hk0 kA kI hB
    obtain ⟨i, rfl, hij, hg, hk, kA, kI, hB⟩ := hrel
    obtain ⟨c8, c9, ca_, cr_⟩ := hci.out wr hk.out
    obtain ⟨d0, d1⟩ := ca_ i (by omega)
    obtain ⟨r0, r1⟩ := cr_ i (by omega)
    obtain ⟨⟨q1, q2⟩, hq⟩ : ∃ q, q = ps[i]! := ⟨_, rfl⟩
    rw [← hq] at d0 d1
    have hform : ∃ A1 n1 c1 A2 n2 c2, (.slice A1 n1 c1, .slice A2 n2 c2) = ir[i]! := by
      obtain ⟨b, k1, k2⟩ := hk.out.pf i (by rw [hil.out]; omega)
      obtain ⟨A1, c1, e1, -⟩ := k1.form
      obtain ⟨A2, c2, e2, -⟩ := k2.form
      exact ⟨A1, _, c1, A2, _, c2, Prod.ext e1.symm e2.symm⟩
    obtain ⟨A1, n1, c1, A2, n2, c2, hiv⟩ := hform
    rw [← hiv] at r0 r1
    obtain ⟨p1, p2⟩ := p
    simp only at d0 d1 r0 r1 kA
    have d0r : ∀ d os, (grow (redrawn wr d) os).cell? ⟨ga, i * 2, none⟩ = some (.int .u64 (q1 : Int)) := cell_regrown d0
    have d1r : ∀ d os, (grow (redrawn wr d) os).cell? ⟨ga, i * 2 + 1, none⟩ = some (.int .u64 (q2 : Int)) := cell_regrown d1
    have c9r : ∀ d os, (grow (redrawn wr d) os).cell? ⟨g9, 0, none⟩ = some (.slice (some ⟨ga, 0, none⟩) n ca) := cell_regrown c9
    have a0r : ∀ d os, (grow (redrawn wr d) os).cell? ⟨w.heap.size, 0, none⟩ = some (.int .u64 (p1 : Int)) := cell_regrown (kA.out.cell 0)
    have a1r : ∀ d os, (grow (redrawn wr d) os).cell? ⟨w.heap.size, 1, none⟩ = some (.int .u64 (p2 : Int)) := cell_regrown (kA.out.cell 1)
    have hiz : (i : Int) < (n : Int) := by omega
    have hiz0 : (0 : Int) ≤ (i : Int) := by omega
    have hwi : IntKind.i64.wrap ((i : Int) + 1) = (i : Int) + 1 := by rw [IntKind.wrap_i64]; omega
    replace hq := Lib.hid hq
    replace hiv := Lib.hid hiv
    clear ca_ cr_ d0 d1
    have hcs := ipair (q1, q2) (p1, p2)
    go_upto_region 4 with fail
    clear c9 c8
    rcases hcs with ⟨hpq, e1, e2⟩ | ⟨hpq, e1, e2⟩ | ⟨hpq, e1⟩
    case inl =>
      simp only at e1 e2
      refine wp_region_quiet_below (by kernel_rfl) (by kernel_rfl) ?_
      iterate 6 (quiet_step (fail))
      refine wpQuiet_nil ?_
      intro w3 hw'
      have hE : Hid (Below wr.heap.size wr w3) := Lib.hid (by
        obtain ⟨z, rfl⟩ := hw'
        exact below_regrown wr z.d z.os)
      replace hk := Lib.hid (hk.out.below hE.out)
      replace kA := Lib.hid (Blk.below kA.out hE.out)
      replace kI := Lib.hid (Blk.below kI.out hE.out)
      have x0 : w3.cell? ⟨gr, i * 2, none⟩ = some (.slice A1 n1 c1) := by rw [hE.out.cell (block_lt_of_cell r0)]; exact r0
      have x1 : w3.cell? ⟨gr, i * 2 + 1, none⟩ = some (.slice A2 n2 c2) := by rw [hE.out.cell (block_lt_of_cell r1)]; exact r1
      replace hB := Lib.hid (hB.out.trans (hE.out.mono hB.out.size))
      clear hw' hE d0r d1r c9r a0r a1r r0 r1
      have hij2 : i = j := by
        rcases Nat.lt_or_ge i j with h | h
        · exact absurd (hq.out.symm.trans hpq) (hfirst i h)
        · omega
      have c8 : w3.cell? ⟨g8, 0, none⟩ = some (.slice (some ⟨gr, 0, none⟩) n cr) := hk.out.b8.cell 0
      have v0 : w3.cell? ⟨w.heap.size + 1, 0, none⟩ = some (.slice none 0 0) := kI.out.cell 0
      have v1 : w3.cell? ⟨w.heap.size + 1, 1, none⟩ = some (.slice none 0 0) := kI.out.cell 1
      have f0 := kI.out.frozen 0
      have f1 := kI.out.frozen 1
      have hres : Hid (rv = (.slice A1 n1 c1, .slice A2 n2 c2)) := Lib.hid (by rw [hrv.out, hiv.out, hij2])
      replace hij2 := Lib.hid hij2
      clear hpq hwi
      go_wp2_with fail
      have kI2 := Lib.hid (show Blk ((w3.setCell ⟨w.heap.size + 1, 0, none⟩ (.slice A1 n1 c1)).setCell ⟨w.heap.size + 1, 1, none⟩ (.slice A2 n2 c2)) (w.heap.size + 1) 120 #[.slice A1 n1 c1, .slice A2 n2 c2] from (Blk.set_ kI.out 0 (.slice A1 n1 c1)).set_ 1 (.slice A2 n2 c2))
      replace hB := Lib.hid ((hB.out.setCell (p := ⟨w.heap.size + 1, 0, none⟩) (by simp) (.slice A1 n1 c1)).setCell (p := ⟨w.heap.size + 1, 1, none⟩) (by simp) (.slice A2 n2 c2))
      generalize hW5 : (w3.setCell ⟨w.heap.size + 1, 0, none⟩ (.slice A1 n1 c1)).setCell ⟨w.heap.size + 1, 1, none⟩ (.slice A2 n2 c2) = w5 at kI2 hB ⊢
      clear hW5
      have u0 : w5.cell? ⟨w.heap.size + 1, 0, none⟩ = some (.slice A1 n1 c1) := kI2.out.cell 0
      have u1 : w5.cell? ⟨w.heap.size + 1, 1, none⟩ = some (.slice A2 n2 c2) := kI2.out.cell 1
      refine bodyPost_ret (v := .agg #[.slice A1 n1 c1, .slice A2 n2 c2]) ?_ rfl ⟨by rw [hres.out], hB.out⟩
      simp [results, Tryz.results98, asAddr, Result.andThen, go_sem, u0, u1]
    case inr.inl =>
      simp only at e1 e2
      refine wp_region_quiet_below (by kernel_rfl) (by kernel_rfl) ?_
      iterate 6 (quiet_step (fail))
      refine wpQuiet_nil ?_
      intro w3 hw'
      have hE : Hid (Below wr.heap.size wr w3) := Lib.hid (by
        obtain ⟨z, rfl⟩ := hw'
        exact below_regrown wr z.d z.os)
      replace hk := Lib.hid (hk.out.below hE.out)
      replace kA := Lib.hid (Blk.below kA.out hE.out)
      replace kI := Lib.hid (Blk.below kI.out hE.out)
      have x0 : w3.cell? ⟨gr, i * 2, none⟩ = some (.slice A1 n1 c1) := by rw [hE.out.cell (block_lt_of_cell r0)]; exact r0
      have x1 : w3.cell? ⟨gr, i * 2 + 1, none⟩ = some (.slice A2 n2 c2) := by rw [hE.out.cell (block_lt_of_cell r1)]; exact r1
      replace hB := Lib.hid (hB.out.trans (hE.out.mono hB.out.size))
      clear hw' hE d0r d1r c9r a0r a1r r0 r1
      have hij2 : i < j := by
        rcases Nat.lt_or_ge i j with h | h
        · exact h
        · obtain rfl : i = j := by omega
          exact absurd (by rw [hq.out, hp]) hpq
      replace hpq := Lib.hid hpq
      go_wp2_with fail
      go_roundg (n - (i + 1))
      case measure => omega
      case rel => exact ⟨i + 1, by simp, by omega, Nat.le_refl _, hk, kA, kI, hB⟩
    case inr.inr =>
      simp only at e1
      refine wp_region_quiet_below (by kernel_rfl) (by kernel_rfl) ?_
      iterate 6 (quiet_step (fail))
      refine wpQuiet_nil ?_
      intro w3 hw'
      have hE : Hid (Below wr.heap.size wr w3) := Lib.hid (by
        obtain ⟨z, rfl⟩ := hw'
        exact below_regrown wr z.d z.os)
      replace hk := Lib.hid (hk.out.below hE.out)
      replace kA := Lib.hid (Blk.below kA.out hE.out)
      replace kI := Lib.hid (Blk.below kI.out hE.out)
      have x0 : w3.cell? ⟨gr, i * 2, none⟩ = some (.slice A1 n1 c1) := by rw [hE.out.cell (block_lt_of_cell r0)]; exact r0
      have x1 : w3.cell? ⟨gr, i * 2 + 1, none⟩ = some (.slice A2 n2 c2) := by rw [hE.out.cell (block_lt_of_cell r1)]; exact r1
      replace hB := Lib.hid (hB.out.trans (hE.out.mono hB.out.size))
      clear hw' hE d0r d1r c9r a0r a1r r0 r1
      have hij2 : i < j := by
        rcases Nat.lt_or_ge i j with h | h
        · exact h
        · obtain rfl : i = j := by omega
          exact absurd (by rw [hq.out, hp]) hpq
      replace hpq := Lib.hid hpq
      go_wp2_with fail
      go_roundg (n - (i + 1))
      case measure => omega
      case rel => exact ⟨i + 1, by simp, by omega, Nat.le_refl _, hk, kA, kI, hB⟩
end Go.Proofs.YtoaggmegmgdgbaaGreat
