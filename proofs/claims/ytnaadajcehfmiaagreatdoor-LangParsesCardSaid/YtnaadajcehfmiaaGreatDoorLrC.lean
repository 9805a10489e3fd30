/- lang: take, name, add. -/
import Derived.Test.YtnaadajcehfmiaaGreatDoorLrB
import Derived.Deep.RegionLaw
namespace Go.Proofs.YtnaadajcehfmiaaGreatDoor
open Go.RowKit Go.Sort Go.Maps

theorem info_node : (Tryz.prog.info? 52).map (fun i => (i.zero, i.size, i.bytes)) = some (some (.agg #[.int .u8 0, .string ⟨#[]⟩, .int .i64 0, .int .i64 0, .int .i64 0]), 5, 48) := by kernel_rfl
theorem info_int : (Tryz.prog.info? 3).map (fun i => (i.zero, i.size, i.bytes)) = some (some (.int .i64 0), 1, 8) := by kernel_rfl
theorem mkS_ne {l m : List Nat} (hl : Byt l) (hm : Byt m) : ((mkS l).toList == (mkS m).toList) = decide (l = m) := mkS_beq hl hm
theorem mkS_is {t : List Nat} (ht : Byt t) (x : List Nat) (hx : Byt x) : (mkS t).toList = x.map UInt8.ofNat ↔ t = x := by
  rw [ByteArray.toList_eq, mkS_data]
  constructor
  · intro h
    have := congrArg (List.map UInt8.toNat) h
    rw [List.map_map, List.map_map, List.map_congr_left (g := id) (fun y hy => by simpa using ht y hy), List.map_congr_left (l := x) (g := id) (fun y hy => by simpa using hx y hy), List.map_id, List.map_id] at this
    exact this
  · rintro rfl; rfl
theorem news_blk {W : World} {g : Nat} {T : TypeId} {l : List Value} (h : Blk W g T l.toArray) : ∀ j u, l[j]? = some u → W.cell? ((⟨g, 0, none⟩ : Addr).add j) = some u := World.news_of_block h
theorem encN_one (n : Nod) : ∀ u ∈ encN n, u.oneCell' = true := fun u hu => by
  simp only [encN, List.mem_cons, List.not_mem_nil, or_false] at hu
  rcases hu with rfl | rfl | rfl | rfl | rfl <;> rfl
theorem byt_nil : Byt [] := fun b hb => by cases hb
theorem PS.byt_tx {s : ByteArray} {last nx : Nat} {wrong : Bool} {st : PS} (h : PSok s last wrong nx st) : Byt st.tx := by
  unfold PS.tx
  rcases hT : st.T with _ | ⟨t, T⟩
  · exact byt_nil
  · exact (h.toks t (by rw [hT]; exact List.mem_cons_self ..)).2.2.1
theorem RdS.byt {s : ByteArray} {last : Nat} {wrong : Bool} {B p gm o : Nat} {X : List It} {st : PS} {w : World} (h : RdS s last wrong B p gm X o st w) : Byt st.tx := by
  obtain ⟨nx, vN, vL, vH, D, h1, h2, h3, h4⟩ := h
  exact PS.byt_tx h3
section
variable {s : ByteArray} {last : Nat} {wrong : Bool} {B p gm o : Nat} {X : List It} {st : PS} {w w' : World}
/-- How a method without a result ends. -/
def PostU (s : ByteArray) (last : Nat) (wrong : Bool) (B p gm : Nat) (X : List It) (o : Nat) (w : World) (r : PR Unit) (e : Ending) (w' : World) : Prop :=
  match r with
  | .ok _ st' => e = .returned (.tuple #[]) ∧ RdS s last wrong B p gm X o st' w' ∧ Below B w w'
  | .no a c => PanF B a c w e w'
set_option maxRecDepth 100000 in
/-- take -/
theorem takeS (x : List Nat) (hx : Byt x) (hne : x ≠ []) (h : RdS s last wrong B p gm X o st w) :
    Calls Tryz.prog 24 #[.pointer (some ⟨p, 0, none⟩), .string (mkS x)] w (PostU s last wrong B p gm X o w (takeP last wrong x st)) := by
  have c2 := h.token
  have hb := h.byt
  by_cases he : st.tx = x
  · have hT : st.T ≠ [] := fun e => hne (by rw [← he, PS.tx, e])
    have hb2 : ((mkS st.tx).toList == (mkS x).toList) = true := by rw [he]; simp
    have hr : takeP last wrong x st = .ok () st.on := by unfold takeP; rw [if_pos he]
    have cO := Lib.hid (onS h hT)
    rw [hr]
    replace hr := Lib.hid hr
    replace hT := Lib.hid hT
    replace h := Lib.hid h
    replace hb := Lib.hid hb
    clear he
    go_enter Tryz.func24, Tryz.ntmps24
    go_wp2_with fail
    refine cO.out.mono ?_
    rintro en w1 ⟨rfl, h1, hB⟩
    go_wp2_with fail
    go_end0
    exact ⟨rfl, h1, hB⟩
  · have hb2 : ((mkS st.tx).toList == (mkS x).toList) = false := by rw [mkS_ne hb hx]; exact decide_eq_false he
    have hr : takeP last wrong x st = unwP last wrong st := by unfold takeP; rw [if_neg he]
    rw [hr]
    rcases hu : (unwP last wrong st : PR Unit) with ⟨v, st1⟩ | ⟨a, c⟩
    · exact (unwP_ok hu).elim
    · have cU := Lib.hid (unwS h hu)
      replace hr := Lib.hid hr
      replace hu := Lib.hid hu
      replace h := Lib.hid h
      replace hb := Lib.hid hb
      clear he
      go_enter Tryz.func24, Tryz.ntmps24
      go_wp2_with fail
      refine cU.out.mono ?_
      rintro en w1 ⟨q, rfl, hq⟩
      exact ⟨rfl, q, rfl, hq⟩
end
set_option maxRecDepth 100000 in
/-- name -/
theorem name_any (t : List Nat) (ht : Byt t) (w : World) : Calls Tryz.prog 21 #[.string (mkS t)] w (fun e w' => e = .returned (.bool (isName t)) ∧ w' = w) := by
  have e1 : (mkS t).toList = [105] ↔ t = [105] := mkS_is ht [105] (by unfold Byt; simp)
  have e2 : (mkS t).toList = [122] ↔ t = [122] := mkS_is ht [122] (by unfold Byt; simp)
  have e3 : (mkS t).toList = [108, 101, 116] ↔ t = [108, 101, 116] := mkS_is ht [108, 101, 116] (by unfold Byt; simp)
  rcases t with _ | ⟨b, l⟩
  · have hr : isName [] = false := rfl
    rw [hr]
    rw [show mkS [] = (⟨#[]⟩ : ByteArray) from rfl]
    clear e1 e2 e3 hr
    go_enter Tryz.func21, Tryz.ntmps21
    go_wp2_with fail
    go_ret
    exact ⟨rfl, rfl⟩
  · obtain ⟨tk, htk⟩ : ∃ k, k = mkS (b :: l) := ⟨_, rfl⟩
    have hsz : 0 < tk.size := by rw [htk, mkS_size]; simp
    have hb9 : b < 256 := ht b (List.mem_cons_self ..)
    have hcx : (((tk[0]'hsz).toNat : Nat) : Int) = (b : Int) := by
      have h1 := sl_get tk 0 hsz
      have h3 : sl tk = b :: l := by rw [htk]; exact sl_mk _ ht
      rw [h3] at h1
      have h2 : b = tk[0].toNat := Option.some.inj h1
      rw [← h2]
    have hszI : (0 : Int) < (tk.size : Int) := by omega
    have e0 : ¬ tk.toList = [] := fun e => by
      have h1 : tk.data.toList = [] := by rw [← ByteArray.toList_eq]; exact e
      have h2 : tk.size = 0 := by
        have := congrArg List.length h1
        simpa using this
      omega
    have e00 : tk.toList.isEmpty = false := by simpa using e0
    rw [← htk] at e1 e2 e3 ⊢
    replace htk := Lib.hid htk
    have cT0 := fun W => letter_any b W
    have hn : isName (b :: l) = (letB b && decide ((b :: l) ≠ [105]) && decide ((b :: l) ≠ [122]) && decide ((b :: l) ≠ [108, 101, 116])) := rfl
    rw [hn]
    clear ht hn
    have hr : (letB b && decide ((b :: l) ≠ [105]) && decide ((b :: l) ≠ [122]) && decide ((b :: l) ≠ [108, 101, 116])) = (letB b && !decide (tk.toList = [105]) && !decide (tk.toList = [122]) && !decide (tk.toList = [108, 101, 116])) := by
      rw [decide_not, decide_not, decide_not, decide_eq_decide.2 e1, decide_eq_decide.2 e2, decide_eq_decide.2 e3]
    rw [hr]
    clear hr e1 e2 e3
    obtain ⟨tb, htb⟩ : ∃ x, x = letB b := ⟨_, rfl⟩
    rw [← htb] at cT0 ⊢
    replace htb := Lib.hid htb
    have cT := Lib.hid cT0
    clear cT0
    cases tb
    · go_enter Tryz.func21, Tryz.ntmps21
      go_wp2_with fail
      refine (cT.out _).mono ?_
      rintro en w1 ⟨rfl, rfl⟩
      go_wp2_with fail
      go_ret
      exact ⟨by simp, rfl⟩
    · by_cases h1 : tk.toList = [105] <;> by_cases h2 : tk.toList = [122] <;> by_cases h3 : tk.toList = [108, 101, 116]
      all_goals
        go_enter Tryz.func21, Tryz.ntmps21
        go_wp2_with fail
        refine (cT.out _).mono ?_
        rintro en w1 ⟨rfl, rfl⟩
        go_wp2_with fail
        go_ret
        exact ⟨by simp [h1, h2, h3], rfl⟩
end Go.Proofs.YtnaadajcehfmiaaGreatDoor
