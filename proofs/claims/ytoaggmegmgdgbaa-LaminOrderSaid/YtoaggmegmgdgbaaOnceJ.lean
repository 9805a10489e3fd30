/- Package lamin: once. -/
import Derived.Test.YtoaggmegmgdgbaaOnceI
namespace Go.Proofs.Ytoaggmegmgdgbaa
open Go.Shelf Go.RowKit Go.Lib Go.Sort

abbrev PT := Nat × Nat
/-- An angle's cells. -/
def encP (p : PT) : List Value := [.bool false, .string (natS p.1), .string (natS p.2)]
theorem encP_len (p : PT) : (encP p).length = 3 := rfl
/-- Angles that can be read. -/
def RdP (w : World) (v : Value) (L : List PT) : Prop := ∃ A c, v = .slice A L.length c ∧ (A = none → c = 0) ∧ (∀ ad, A = some ad → ∀ (j : Nat) (u : Value), (L.flatMap encP)[j]? = some u → w.cell? (ad.add j) = some u) ∧ (0 < L.length → A.isSome = true)
theorem attach_flat (L : List PT) (hL : ∀ p, p ∈ L → Ang p) : (L.attachWith Ang hL).flatMap encA = L.flatMap encP := by
  induction L with
  | nil => rfl
  | cons a r ih =>
    rw [List.attachWith_cons, List.flatMap_cons, List.flatMap_cons, ih]
    rfl
theorem val_flat (L : List AngT) : L.flatMap encA = (L.map Subtype.val).flatMap encP := by
  rw [List.flatMap_map]; rfl
theorem sorted_pairwise {d : Array AngT} (h : SortedIn (ltOf cfA) 0 d.size d) : d.toList.Pairwise (fun x y => ¬ below_ y.1 x.1) := by
  rw [List.pairwise_iff_getElem]
  intro i j hi hj hij hlt
  have := h i j (Nat.zero_le _) hij (by simpa using hj)
  rw [getElem!_pos d i (by simpa using hi), getElem!_pos d j (by simpa using hj)] at this
  simp only [Array.getElem_toList] at hlt
  exact (of_decide_eq_false (p := cmpP d[j].1 d[i].1 < 0) this) hlt
theorem once_rise (L : List PT) (hL : ∀ p, p ∈ L → Ang p) (d' : Array AngT) (hs : d'.size = L.length) (hp : PermIn 0 L.length (L.attachWith Ang hL).toArray d') (hsort : SortedIn (ltOf cfA) 0 L.length d') : (compactL d'.toList).map Subtype.val = riseL L := by
  rw [← hs] at hsort
  have hmem : ∀ x : AngT, x ∈ d'.toList ↔ x ∈ L.attachWith Ang hL := by
    intro x
    have h := hp.2.2
    have e1 : d'.extract 0 L.length = d' := by rw [← hs]; simp
    have e2 : (L.attachWith Ang hL).toArray.extract 0 L.length = (L.attachWith Ang hL).toArray := by
      have : L.length = (L.attachWith Ang hL).toArray.size := by simp
      rw [this]; exact Array.extract_size
    rw [e1, e2] at h
    exact h.mem_iff
  have hr1 : Rises (fun x y : AngT => below_ x.1 y.1) (compactL d'.toList) := by
    refine compactL_rises (lt := fun x y : AngT => below_ x.1 y.1) (fun x y h => ?_) (fun x y z h1 h2 => cmpP_trans y.2.pos z.2.pos h1 h2) (sorted_pairwise hsort)
    rcases cmpP_bd x.1 y.1 with e | e | e
    · exact .inr (by unfold below_; omega)
    · exact .inl (Subtype.ext ((cmpP_eq x.2 y.2).1 e))
    · exact absurd (cmpP_anti.2 (by omega)) h
  refine rises_ext (lt := fun x y => Ang x ∧ Ang y ∧ below_ x y) (fun x h => below_irr x h.2.2) (fun x y z h1 h2 => ⟨h1.1, h2.2.1, cmpP_trans h1.2.1.pos h2.2.1.pos h1.2.2 h2.2.2⟩) ?_ ?_ (fun x => ?_)
  · exact List.pairwise_map.2 (hr1.imp (fun {a b} h => ⟨a.2, b.2, h⟩))
  · have h := riseL_rises hL
    have hm : ∀ y, y ∈ riseL L → Ang y := fun y hy => hL y (riseL_mem.1 hy)
    exact List.Pairwise.imp_of_mem (fun {a b} ha hb h => ⟨hm a ha, hm b hb, h⟩) h
  · rw [riseL_mem, List.mem_map]
    constructor
    · rintro ⟨y, hy, rfl⟩
      have := (hmem y).1 (mem_compactL.1 hy)
      rw [List.mem_attachWith] at this
      exact this
    · intro hx
      exact ⟨⟨x, hL x hx⟩, mem_compactL.2 ((hmem _).2 (by rw [List.mem_attachWith]; exact hx)), rfl⟩

set_option maxRecDepth 100000 in
set_option maxHeartbeats 1000000 in
/-- lamin.once -/
theorem lonce_any (v : Value) (L : List PT) (w : World) (hv : RdP w v L) (hL : ∀ p, p ∈ L → Ang p) (hn : L.length ≤ 1048576) :
    Calls Try.prog 30 #[v] w fun e w' => ∃ v', e = .returned v' ∧ Hid (w'.ownsRow w.heap.size 25 3 v' (riseL L).length ((riseL L).flatMap encP)) ∧ Hid (Below w.heap.size w w') := by
  obtain ⟨A, c, rfl, hc, hcells, hsome⟩ := hv
  have hClone : Hid (Calls Try.prog 45 #[.slice A L.length c] w fun e w' => ∃ v', e = .returned v' ∧ Hid (w'.ownsRow w.heap.size 25 3 v' L.length (L.flatMap encP)) ∧ Hid (Below w.heap.size w w')) := Lib.hid (by
    rcases A with _ | ad
    · have h0 : L = [] := by
        rcases L with _ | ⟨a, r⟩
        · rfl
        · exact absurd (hsome (by simp)) (by simp)
      subst h0
      refine (lcloneR_nil _ c w).mono ?_
      rintro e w' ⟨rfl, hb⟩
      exact ⟨_, rfl, Lib.hid (World.ownsRow_nil _ _ _ _), Lib.hid hb⟩
    · exact lcloneR ad L.length c (L.flatMap encP) w (flatMap_len encP 3 encP_len L) (hcells ad rfl) (fun u hu => by
        obtain ⟨p, -, hp⟩ := List.mem_flatMap.1 hu
        simp only [encP, List.mem_cons, List.not_mem_nil, or_false] at hp
        rcases hp with rfl | rfl | rfl <;> rfl) hn)
  have hRest : Hid (∀ (W : World) (v : Value), W.ownsRow w.heap.size 25 3 v L.length (L.flatMap encP) → Below w.heap.size w W →
      Calls Try.prog 46 #[v, .func (.func 31) #[] #[]] W fun e W' => e = .returned (.tuple #[]) ∧ Hid (Below w.heap.size w W') ∧ Hid (Calls Try.prog 47 #[v] W' fun e w' => ∃ v', e = .returned v' ∧ Hid (w'.ownsRow w.heap.size 25 3 v' (riseL L).length ((riseL L).flatMap encP)) ∧ Hid (Below w.heap.size w w'))) := Lib.hid (by
    intro W v hown hb
    rcases hown.2 with ⟨rfl, h0⟩ | ⟨g, cap, cur, rfl, hbg, -⟩
    · have h0' : L = [] := List.eq_nil_of_length_eq_zero h0
      subst h0'
      refine (lsort_nilA 0 _ W).mono ?_
      rintro e W' ⟨rfl, hb2⟩
      have hb3 := hb.trans (hb2.mono hb.size)
      refine ⟨rfl, Lib.hid hb3, Lib.hid ((lcompact_nilA 0 W').mono ?_)⟩
      rintro e w' ⟨rfl, hb4⟩
      exact ⟨_, rfl, Lib.hid (World.ownsRow_nil _ _ _ _), Lib.hid (hb3.trans (hb4.mono hb3.size))⟩
    · obtain ⟨d, hd⟩ : ∃ d : Array AngT, d = (L.attachWith Ang hL).toArray := ⟨_, rfl⟩
      have hsz : d.size = L.length := by rw [hd]; simp
      have hflat : L.flatMap encP = d.toList.flatMap encA := by rw [hd]; exact (attach_flat L hL).symm
      have hbs := hb.size
      rw [hflat, ← hsz] at hown
      rw [← hsz]
      refine (lsortA_own w.heap.size g cap d W hown (by omega)).mono ?_
      rintro e W' ⟨rfl, d', hs', hp, hsort, hown', hg⟩
      have hb3 : Below w.heap.size w W' := hb.grown hg.out hbs (fun k hk => by injection hk with hk; omega)
      refine ⟨rfl, Lib.hid hb3, Lib.hid ?_⟩
      rw [← hs'] at hown'
      rw [← hs']
      refine (lcompactA w.heap.size g cap d' W' hown'.out (by omega)).mono ?_
      rintro e w' ⟨rfl, hown2, hg2⟩
      have hb3s := hb3.size
      have hR : (compactL d'.toList).map Subtype.val = riseL L := once_rise L hL d' (by rw [hs', hsz]) (by rw [← hd, ← hsz]; exact hp) (by rw [← hsz]; exact hsort)
      refine ⟨_, rfl, Lib.hid ?_, Lib.hid (hb3.grown hg2 hb3s (fun k hk => by injection hk with hk; omega))⟩
      rw [← hR, List.length_map, ← val_flat]
      exact hown2)
  clear hcells hsome hc hL
  go_enter Try.func30, Try.ntmps30
  go_wp2_with fail
  refine hClone.out.mono ?_
  rintro e w1 ⟨v1, rfl, hown, hb⟩
  clear hClone
  have hS := Lib.hid (hRest.out w1 v1 hown.out hb.out)
  clear hRest hown hb
  go_wp2_with fail
  refine hS.out.mono ?_
  rintro e w2 ⟨rfl, hb, hC⟩
  clear hS
  go_wp2_with fail
  refine hC.out.mono ?_
  rintro e w3 ⟨v3, rfl, hown, hb3⟩
  clear hC hb
  go_wp2_with fail
  go_ret
  exact ⟨_, rfl, hown, hb3⟩
end Go.Proofs.Ytoaggmegmgdgbaa
