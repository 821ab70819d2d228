import Derived.Test.YtibkopejnhihkaaPFnExactCellCountx11
import Derived.Test.YtibkopejnhihkaaCoreP
namespace Go.Proofs.Ytibkopejnhihkaa.PFnExactCellCount
set_option linter.unusedVariables false
set_option linter.unusedSimpArgs false
open Go.RowKit Go.Proofs.YtibkopejnhihkaaW.PrintWords Go.Proofs.YtibkopejnhihkaaW.PrintLast
open Core (Evt)
theorem w64 (x : Int) (h : -9223372036854775808 ≤ x ∧ x ≤ 9223372036854775807) : wrap64 x = x := by unfold wrap64; omega
/-! sizes -/
theorem szRow_ev (l : List S144) (a : Int) (ha : 0 ≤ a ∧ a ≤ 1048576) (hl : l.length ≤ maxLen) : laws_szFaceS.f l a = some (if a - (l.length : Int) < 0 then -1 else a - l.length) := by
  unfold laws_szFaceS.f
  have hl : l.length ≤ 9223372036854775807 := hl
  rw [w64 _ (by omega)]
  split <;> rfl
theorem szLoop_ev (T : List (List S144)) (hT : T.length ≤ 1048576) (hr : ∀ x ∈ T, x.length ≤ maxLen) : ∀ d i : Nat, i + d = T.length → ∀ a : Int, 0 ≤ a → a ≤ 1048576 →
    ∃ s, Evt (fun k => laws_szFaceSS.l0 k T a i) s ∧ (0 ≤ s → ∀ j, i ≤ j → j < T.length → (T.getD j []).length ≤ 1048576) := by
  intro d
  induction d with
  | zero =>
    intro i hi a h0 h1
    refine ⟨a, Evt.succ (G := fun _ => some a) (fun k => ?_) (Evt.const _), fun _ j h2 h3 => by omega⟩
    simp only [laws_szFaceSS.l0]
    rw [if_neg (by omega)]
  | succ d ih =>
    intro i hi a h0 h1
    have hlt : i < T.length := by omega
    have hrow : (rd_L2 T (i : Int)).length ≤ maxLen := by
      unfold rd_L2
      rw [Int.toNat_natCast, List.getD_eq_getElem?_getD, List.getElem?_eq_getElem hlt]
      exact hr _ (List.getElem_mem hlt)
    have hsz := szRow_ev (rd_L2 T (i : Int)) a ⟨h0, h1⟩ hrow
    by_cases hneg : a - ((rd_L2 T (i : Int)).length : Int) < 0
    · rw [if_pos hneg] at hsz
      refine ⟨-1, Evt.succ (G := fun _ => some (-1)) (fun k => ?_) (Evt.const _), fun h => by omega⟩
      simp only [laws_szFaceSS.l0]
      rw [if_pos (by omega), if_pos (by omega), hsz]
      rfl
    · rw [if_neg hneg] at hsz
      obtain ⟨s, hs, hb⟩ := ih (i + 1) (by omega) (a - ((rd_L2 T (i : Int)).length : Int)) (by omega) (by omega)
      refine ⟨s, Evt.succ (fun k => ?_) hs, fun h j h2 h3 => ?_⟩
      · simp only [laws_szFaceSS.l0]
        rw [if_pos (by omega), if_pos (by omega), hsz]
        simp only [Option.bind_some]
        rw [if_neg hneg, w64 _ (by omega)]
        rfl
      · by_cases hj : j = i
        · subst hj
          have : (rd_L2 T (j : Int)) = T.getD j [] := by unfold rd_L2; rw [Int.toNat_natCast]
          rw [this] at hneg
          omega
        · exact hb h j (by omega) h3
/-- The law's own bound: it answers true, or all is short. -/
theorem sz_ev (T : List (List S144)) (hT : T.length ≤ maxLen) (hr : ∀ x ∈ T, x.length ≤ maxLen) :
    ∃ s, Evt (fun k => laws_szTriangulation.f k T 1048576) s ∧ (0 ≤ s → T.length ≤ 1048576 ∧ ∀ j, j < T.length → (T.getD j []).length ≤ 1048576) := by
  have hT' : T.length ≤ 9223372036854775807 := hT
  have hw : wrap64 (1048576 - (T.length : Int)) = 1048576 - T.length := w64 _ (by omega)
  by_cases hneg : (1048576 : Int) - T.length < 0
  · refine ⟨-1, Evt.congr (G := fun _ => some (-1)) (fun k => ?_) (Evt.const _), fun h => by omega⟩
    unfold laws_szTriangulation.f laws_szFaceSS.f
    rw [hw, if_pos hneg]
    rfl
  · obtain ⟨s, hs, hb⟩ := szLoop_ev T (by omega) hr T.length 0 (by omega) (1048576 - T.length) (by omega) (by omega)
    refine ⟨if s < 0 then -1 else s, ?_, fun h => ⟨by omega, fun j hj => hb (by split at h <;> omega) j (by omega) hj⟩⟩
    refine Evt.congr (fun k => ?_) (Evt.bind (B := fun _ t => if t < 0 then some (-1) else some t) hs (Evt.of_eq (by split <;> rfl)))
    unfold laws_szTriangulation.f laws_szFaceSS.f
    rw [hw, if_neg hneg]
    rfl
/-! copies -/
def c110 (x : S144) : S110 := ⟨x.f0, x.f1⟩
def conv (T : List (List S144)) : List (List S110) := T.map (List.map c110)
theorem set_take {α : Type} (l : List α) (i : Nat) (x : α) (h : i < l.length) : (l.set i x).take (i + 1) = l.take i ++ [x] := by
  rw [List.take_add_one, List.take_set_of_le (Nat.le_refl i)]
  simp [h]
theorem toRow_ev (row : List S144) (hl : row.length ≤ 1048576) : ∀ d i : Nat, i + d = row.length → ∀ acc : List S110, acc.length = row.length → Evt (fun k => laws_toFaceS.l0 k row acc i) (acc.take i ++ (row.map c110).drop i) := by
  intro d
  induction d with
  | zero =>
    intro i hi acc ha
    refine Evt.succ (G := fun _ => some _) (fun k => ?_) (Evt.const _)
    simp only [laws_toFaceS.l0]
    rw [if_neg (by omega)]
    rw [List.take_of_length_le (by omega), List.drop_eq_nil_of_le (by simp; omega), List.append_nil]
  | succ d ih =>
    intro i hi acc ha
    have hlt : i < row.length := by omega
    have h := ih (i + 1) (by omega) (acc.set i (c110 (row.getD i z144))) (by simpa using ha)
    have e : (acc.set i (c110 (row.getD i z144))).take (i + 1) ++ (row.map c110).drop (i + 1) = acc.take i ++ (row.map c110).drop i := by
      rw [set_take _ _ _ (by omega), List.drop_eq_getElem_cons (i := i) (by simpa using hlt)]
      simp [List.getD_eq_getElem?_getD, List.getElem?_eq_getElem hlt]
    rw [e] at h
    refine Evt.succ (fun k => ?_) h
    simp only [laws_toFaceS.l0, laws_toFace.f, Option.bind_some]
    rw [if_pos (by omega), if_pos (by omega), if_pos (by omega), w64 _ (by omega)]
    rfl
theorem toRows_ev (T : List (List S144)) (hT : T.length ≤ 1048576) (hr : ∀ j, j < T.length → (T.getD j []).length ≤ 1048576) : ∀ d i : Nat, i + d = T.length → ∀ acc : List (List S110), acc.length = T.length → Evt (fun k => laws_toFaceSS.l0 k T acc i) (acc.take i ++ (conv T).drop i) := by
  intro d
  induction d with
  | zero =>
    intro i hi acc ha
    refine Evt.succ (G := fun _ => some _) (fun k => ?_) (Evt.const _)
    simp only [laws_toFaceSS.l0]
    rw [if_neg (by omega)]
    rw [List.take_of_length_le (by omega), List.drop_eq_nil_of_le (by simp [conv]; omega), List.append_nil]
  | succ d ih =>
    intro i hi acc ha
    have hlt : i < T.length := by omega
    have hrow := hr i hlt
    have h := ih (i + 1) (by omega) (acc.set i ((T.getD i []).map c110)) (by simpa using ha)
    have e : (acc.set i ((T.getD i []).map c110)).take (i + 1) ++ (conv T).drop (i + 1) = acc.take i ++ (conv T).drop i := by
      rw [set_take _ _ _ (by omega), List.drop_eq_getElem_cons (i := i) (by simpa [conv] using hlt)]
      simp [conv, List.getD_eq_getElem?_getD, List.getElem?_eq_getElem hlt]
    rw [e] at h
    have hrw : rd_L2 T (i : Int) = T.getD i [] := by unfold rd_L2; rw [Int.toNat_natCast]
    have hto : Evt (fun k => laws_toFaceS.f k (T.getD i [])) ((T.getD i []).map c110) := by
      have := toRow_ev (T.getD i []) hrow (T.getD i []).length 0 (by omega) (List.replicate (T.getD i []).length z110) (by simp)
      simp only [List.take_zero, List.drop_zero, List.nil_append] at this
      refine Evt.congr (fun k => ?_) this
      unfold laws_toFaceS.f
      rw [if_pos (by omega), if_pos (by omega), Int.toNat_natCast]
      rfl
    refine Evt.succ (fun k => ?_) (Evt.bind (B := fun k t => laws_toFaceSS.l0 k T (acc.set i t) ((i + 1 : Nat) : Int)) hto h)
    simp only [laws_toFaceSS.l0]
    rw [if_pos (by omega), if_pos (by omega), hrw]
    congr 1
    funext t
    rw [if_pos (by omega), w64 _ (by omega), Int.toNat_natCast]
    rfl
theorem to_ev (T : List (List S144)) (hT : T.length ≤ 1048576) (hr : ∀ j, j < T.length → (T.getD j []).length ≤ 1048576) : Evt (fun k => laws_toTriangulation.f k T) (conv T) := by
  have h := toRows_ev T hT hr T.length 0 (by omega) (List.replicate T.length []) (by simp)
  simp only [List.take_zero, List.drop_zero, List.nil_append] at h
  refine Evt.congr (fun k => ?_) (Evt.bind (B := fun _ t => some t) h (Evt.const _))
  unfold laws_toTriangulation.f laws_toFaceSS.f
  rw [if_pos (by omega), if_pos (by omega), Int.toNat_natCast]
  rfl
/-! equal to itself -/
theorem eqRow_ev (row : List S110) (hl : row.length ≤ 1048576) : ∀ d i : Nat, i + d = row.length → Evt (fun k => laws_eqFaceS.l0 k row row i) true := by
  intro d
  induction d with
  | zero =>
    intro i hi
    refine Evt.succ (G := fun _ => some true) (fun k => ?_) (Evt.const _)
    simp only [laws_eqFaceS.l0]
    rw [if_neg (by omega)]
  | succ d ih =>
    intro i hi
    refine Evt.succ (fun k => ?_) (ih (i + 1) (by omega))
    simp only [laws_eqFaceS.l0, laws_eqFace.f]
    rw [if_pos (by omega), if_pos (by omega), if_pos (by omega)]
    simp only [if_true, Option.bind_some]
    rw [w64 _ (by omega)]
    rfl
theorem eq_ev (T : List (List S110)) (hT : T.length ≤ 1048576) (hr : ∀ j, j < T.length → (T.getD j []).length ≤ 1048576) : Evt (fun k => laws_eqTriangulation.f k T T) true := by
  have key : ∀ d i : Nat, i + d = T.length → Evt (fun k => laws_eqFaceSS.l0 k T T i) true := by
    intro d
    induction d with
    | zero =>
      intro i hi
      refine Evt.succ (G := fun _ => some true) (fun k => ?_) (Evt.const _)
      simp only [laws_eqFaceSS.l0]
      rw [if_neg (by omega)]
    | succ d ih =>
      intro i hi
      have hrw : rd_L4 T (i : Int) = T.getD i [] := by unfold rd_L4; rw [Int.toNat_natCast]
      have hrow : Evt (fun k => laws_eqFaceS.f k (T.getD i []) (T.getD i [])) true := by
        refine Evt.congr (fun k => ?_) (eqRow_ev (T.getD i []) (hr i (by omega)) (T.getD i []).length 0 (by omega))
        unfold laws_eqFaceS.f
        rw [if_pos rfl]
        rfl
      refine Evt.succ (fun k => ?_) (Evt.bind (B := fun k t => if t = true then laws_eqFaceSS.l0 k T T ((i + 1 : Nat) : Int) else some false) hrow (by simpa using ih (i + 1) (by omega)))
      simp only [laws_eqFaceSS.l0]
      rw [if_pos (by omega), if_pos (by omega), if_pos (by omega), hrw, w64 _ (by omega)]
      rfl
  refine Evt.congr (fun k => ?_) (Evt.bind (B := fun _ t => if t = true then some true else some false) (key T.length 0 (by omega)) (Evt.of_eq rfl))
  unfold laws_eqTriangulation.f laws_eqFaceSS.f
  rw [if_pos rfl]
  rfl
end Go.Proofs.Ytibkopejnhihkaa.PFnExactCellCount

namespace Go.Proofs.Ytibkopejnhihkaa.PFnExactCellCount
set_option linter.unusedVariables false
set_option linter.unusedSimpArgs false
open Go.RowKit Go.Proofs.YtibkopejnhihkaaW.PrintWords Go.Proofs.YtibkopejnhihkaaW.PrintLast
open Core (Evt)
/-! ### permutations and edges, by finite checks -/
theorem images_fin : ∀ p : Fin 24, spec_l06Images.f 8 (p.1 : Int) = some (Core.pmL (p.1 : Int)) := by decide +kernel
theorem back_fin : ∀ p : Fin 24, spec_l06Back.f 24 (p.1 : Int) = some (Core.invL (p.1 : Int)) := by decide +kernel
theorem ends_fin : ∀ e : Fin 6, spec_l08Ends.f (e.1 : Int) = some (Core.endA (e.1 : Int), Core.endB (e.1 : Int)) := by decide +kernel
theorem edge_fin : ∀ a b : Fin 4, a ≠ b → spec_l08Edge.f 8 (a.1 : Int) (b.1 : Int) = some (Core.edgeN (a.1 : Int) (b.1 : Int)) := by decide +kernel
theorem images_ev (p : Int) (h0 : 0 ≤ p) (h1 : p < 24) : Evt (fun k => spec_l06Images.f k p) (Core.pmL p) := by
  have h := images_fin ⟨p.toNat, by omega⟩
  dsimp only at h
  rw [show ((p.toNat : Nat) : Int) = p by omega] at h
  exact Evt.mono_at 8 h (fun k x hx => spec_l06Images.mono p k x hx)
theorem at_ev (p f : Int) (h0 : 0 ≤ p) (h1 : p < 24) (hf0 : 0 ≤ f) (hf1 : f < 4) : Evt (fun k => spec_l06At.f k p f) (Core.pm p f) := by
  have hl := (Core.pmL_bd p h0 h1).1
  refine Evt.congr (fun k => rfl) (Evt.bind (images_ev p h0 h1) (Evt.of_eq ?_))
  rw [if_pos hf0, if_pos (by omega)]
  rfl
theorem back_ev (p : Int) (h0 : 0 ≤ p) (h1 : p < 24) : Evt (fun k => spec_l06Back.f k p) (Core.invL p) := by
  have h := back_fin ⟨p.toNat, by omega⟩
  dsimp only at h
  rw [show ((p.toNat : Nat) : Int) = p by omega] at h
  exact Evt.mono_at 24 h (fun k x hx => spec_l06Back.mono p k x hx)
theorem ends_eq (e : Nat) (h : e < 6) : spec_l08Ends.f (e : Int) = some (Core.endA e, Core.endB e) := ends_fin ⟨e, h⟩
theorem edge_ev (a b : Int) (ha0 : 0 ≤ a) (ha1 : a < 4) (hb0 : 0 ≤ b) (hb1 : b < 4) (hab : a ≠ b) : Evt (fun k => spec_l08Edge.f k a b) (Core.edgeN a b) := by
  have h := edge_fin ⟨a.toNat, by omega⟩ ⟨b.toNat, by omega⟩ (by intro h; have := congrArg Fin.val h; dsimp only at this; omega)
  dsimp only at h
  rw [show ((a.toNat : Nat) : Int) = a by omega, show ((b.toNat : Nat) : Int) = b by omega] at h
  exact Evt.mono_at 8 h (fun k x hx => spec_l08Edge.mono a b k x hx)
/-! ### spec.IsTriangulation -/
theorem face_is (T : List (List S110)) (a f : Nat) : rd_T110 (rd_L4 T (a : Int)) (f : Int) = tface T a f := by
  unfold rd_T110 rd_L4 tface
  rfl
/-- One face: on to the next, or false. -/
theorem l2_ev (T : List (List S110)) (h8 : T.length ≤ 8) (h4 : tfour T = true) (a f : Nat) (ha : a < T.length) (hf : f < 4) (b : Bool)
    (hb : tgood T a f = true → Evt (fun k => spec_IsTriangulation.l2 k a ((f + 1 : Nat) : Int) T) b) (hn : tgood T a f = false → b = false) : Evt (fun k => spec_IsTriangulation.l2 k a f T) b := by
  have hrow : (rd_L4 T (a : Int)).length = 4 := by
    have := row_four h4 (a := (a : Int)) (by omega) (by omega)
    unfold rd_L4
    exact this
  have hw1 : wrap64 ((f : Int) + 1) = ((f + 1 : Nat) : Int) := by rw [w64 _ (by omega)]; rfl
  have hw2 : wrap64 ((T.length : Int) - 1) = T.length - 1 := w64 _ (by omega)
  have hface := face_is T a f
  generalize hx : tface T a f = x at hface
  have hgood : tgood T a f = (if x.f0 = -1 then x.f1 == 0 else if 0 ≤ x.f0 ∧ x.f0 < T.length ∧ 0 ≤ x.f1 ∧ x.f1 < 24 then
      decide ((tface T x.f0 (Core.pm x.f1 f)).f0 = a ∧ (tface T x.f0 (Core.pm x.f1 f)).f1 = Core.invL x.f1) && (decide (x.f0 ≠ a) || decide (Core.pm x.f1 f ≠ f)) else false) := by
    unfold tgood
    rw [hx]
  generalize hg : tgood T a f = g at *
  refine Evt.succ (G := fun k => spec_IsTriangulation.j3 k a f (if x.f0 = -1 then x.f1 == 0 else false) T x.f0 x.f1) (fun k => ?_) ?_
  · simp only [spec_IsTriangulation.l2]
    rw [if_pos (by omega), if_pos (by omega), if_pos (by omega), if_pos (by omega), if_pos (by omega), hface]
    split <;> rfl
  by_cases hm1 : x.f0 = -1
  · rw [if_pos hm1] at hgood ⊢
    by_cases hz : x.f1 = 0
    · have e : (x.f1 == 0) = true := by simpa using hz
      rw [e] at hgood ⊢
      refine Evt.succ (fun k => ?_) (hb hgood)
      simp only [spec_IsTriangulation.j3, if_true, hw1]
    · have e : (x.f1 == 0) = false := by simpa using hz
      rw [e] at hgood ⊢
      rw [hn hgood]
      refine Evt.succ (G := fun k => spec_IsTriangulation.j4 k a f true T x.f0 x.f1) (fun k => ?_) ?_
      · simp only [spec_IsTriangulation.j3, spec_l07Tets.f, Option.bind_some, hw2, spec_l07In.f, hm1]
        rfl
      · refine Evt.succ (G := fun k => some false) (fun k => ?_) (Evt.const _)
        simp only [spec_IsTriangulation.j4, if_true]
  · rw [if_neg hm1] at hgood ⊢
    refine Evt.succ (G := fun k => spec_IsTriangulation.j4 k a f (!decide (0 ≤ x.f0 ∧ x.f0 < T.length ∧ 0 ≤ x.f1 ∧ x.f1 < 24)) T x.f0 x.f1) (fun k => ?_) ?_
    · simp only [spec_IsTriangulation.j3, spec_l07Tets.f, Option.bind_some, hw2, spec_l07In.f, spec_l06Valid.f]
      by_cases c0 : 0 ≤ x.f0
      · by_cases c1 : x.f0 < T.length
        · by_cases c2 : 0 ≤ x.f1
          · by_cases c3 : x.f1 < 24
            · simp [c0, c1, c2, c3, show x.f0 ≤ (T.length : Int) - 1 by omega]
            · simp [c0, c1, c2, c3, show x.f0 ≤ (T.length : Int) - 1 by omega]
          · simp [c0, c1, c2, show x.f0 ≤ (T.length : Int) - 1 by omega]
        · simp [c0, c1, show ¬ x.f0 ≤ (T.length : Int) - 1 by omega]
      · simp [c0]
    by_cases hin : 0 ≤ x.f0 ∧ x.f0 < T.length ∧ 0 ≤ x.f1 ∧ x.f1 < 24
    · rw [if_pos hin] at hgood
      rw [decide_eq_true hin]
      have hpm := pm_bd x.f1 f hin.2.2.1 hin.2.2.2 (by omega) (by omega)
      have hrow2 : (rd_L4 T x.f0).length = 4 := by
        have := row_four h4 (a := x.f0) (by omega) (by omega)
        unfold rd_L4
        exact this
      have hf2 : rd_T110 (rd_L4 T x.f0) (Core.pm x.f1 f) = tface T x.f0 (Core.pm x.f1 f) := rfl
      have hA := at_ev x.f1 f hin.2.2.1 hin.2.2.2 (by omega) (by omega)
      have hB := back_ev x.f1 hin.2.2.1 hin.2.2.2
      refine Evt.succ (G := fun k => (spec_l06At.f k x.f1 f).bind fun t => (spec_l06Back.f k x.f1).bind fun u => (if 0 ≤ x.f0 then (if x.f0 < (T.length : Int) then (if 0 ≤ t then (if t < ((rd_L4 T x.f0).length : Int) then (if (!(((rd_T110 (rd_L4 T x.f0) t).f0) == a) || (!(((rd_T110 (rd_L4 T x.f0) t).f1) == u))) = true then (some false) else (if x.f0 = a then (if t = f then (some false) else (spec_IsTriangulation.l2 k a (wrap64 ((f : Int) + 1)) T)) else (spec_IsTriangulation.l2 k a (wrap64 ((f : Int) + 1)) T))) else (none)) else (none)) else (none)) else (none))) (fun k => ?_) ?_
      · simp only [spec_IsTriangulation.j4, Bool.not_true, Bool.false_eq_true, if_false]
      refine Evt.bind hA (Evt.bind hB ?_)
      rw [hw1, hf2]
      generalize hy : tface T x.f0 (Core.pm x.f1 f) = y at *
      refine Evt.congr (G := fun k => if (!(y.f0 == (a : Int)) || (!(y.f1 == Core.invL x.f1))) = true then (some false) else (if x.f0 = a then (if Core.pm x.f1 f = f then (some false) else (spec_IsTriangulation.l2 k a ((f + 1 : Nat) : Int) T)) else (spec_IsTriangulation.l2 k a ((f + 1 : Nat) : Int) T))) (fun k => ?_) ?_
      · rw [if_pos hin.1, if_pos hin.2.1, if_pos hpm.1, if_pos (by omega)]
      by_cases hok : y.f0 = a ∧ y.f1 = Core.invL x.f1
      · rw [decide_eq_true hok, Bool.true_and] at hgood
        have e : (!(y.f0 == (a : Int)) || (!(y.f1 == Core.invL x.f1))) = false := by simp [hok.1, hok.2]
        rw [e]
        by_cases ha2 : x.f0 = a
        · by_cases hpf : Core.pm x.f1 f = f
          · have : g = false := by rw [hgood]; simp [ha2, hpf]
            rw [hn this]
            exact Evt.congr (G := fun _ => some false) (fun k => by rw [if_neg (by simp), if_pos ha2, if_pos hpf]) (Evt.const _)
          · have : g = true := by rw [hgood, decide_eq_true hpf, Bool.or_true]
            exact Evt.congr (fun k => by rw [if_neg (by simp), if_pos ha2, if_neg hpf]) (hb this)
        · have : g = true := by rw [hgood]; simp [ha2]
          exact Evt.congr (fun k => by rw [if_neg (by simp), if_neg ha2]) (hb this)
      · rw [decide_eq_false hok, Bool.false_and] at hgood
        rw [hn hgood]
        have e : (!(y.f0 == (a : Int)) || (!(y.f1 == Core.invL x.f1))) = true := by
          by_cases h1 : y.f0 = a
          · have h2 : ¬ y.f1 = Core.invL x.f1 := fun h => hok ⟨h1, h⟩
            simp [h2]
          · simp [h1]
        exact Evt.congr (G := fun _ => some false) (fun k => by rw [if_pos e]) (Evt.const _)
    · rw [if_neg hin] at hgood
      rw [hn hgood, decide_eq_false hin]
      refine Evt.succ (G := fun k => some false) (fun k => ?_) (Evt.const _)
      simp only [spec_IsTriangulation.j4, Bool.not_false, if_true]
theorem l2s_ev (T : List (List S110)) (h8 : T.length ≤ 8) (h4 : tfour T = true) (a : Nat) (ha : a < T.length) (b : Bool) (P : Prop) (hP : (b = true ↔ P)) (h : Evt (fun k => spec_IsTriangulation.l1 k ((a + 1 : Nat) : Int) T) b) :
    ∀ d f : Nat, f + d = 4 → ∃ c, Evt (fun k => spec_IsTriangulation.l2 k a f T) c ∧ (c = true ↔ P ∧ ∀ j : Nat, f ≤ j → j < 4 → tgood T a j = true) := by
  intro d
  induction d with
  | zero =>
    intro f hf
    refine ⟨b, Evt.succ (fun k => ?_) h, by rw [hP]; exact ⟨fun h => ⟨h, fun j h1 h2 => by omega⟩, fun h => h.1⟩⟩
    simp only [spec_IsTriangulation.l2]
    rw [if_neg (by omega), w64 _ (by omega)]
    rfl
  | succ d ih =>
    intro f hf
    obtain ⟨c, hc, hcc⟩ := ih (f + 1) (by omega)
    cases hg : tgood T a f with
    | true =>
      refine ⟨c, l2_ev T h8 h4 a f ha (by omega) c (fun _ => hc) (fun h => by rw [hg] at h; exact Bool.noConfusion h), ?_⟩
      rw [hcc]
      refine ⟨fun h => ⟨h.1, fun j h1 h2 => ?_⟩, fun h => ⟨h.1, fun j h1 h2 => h.2 j (by omega) h2⟩⟩
      by_cases hj : j = f
      · subst hj; exact hg
      · exact h.2 j (by omega) h2
    | false =>
      refine ⟨false, l2_ev T h8 h4 a f ha (by omega) false (fun h => by rw [hg] at h; exact Bool.noConfusion h) (fun _ => rfl), ?_⟩
      refine ⟨fun h => Bool.noConfusion h, fun h => ?_⟩
      have := h.2 f (Nat.le_refl _) (by omega)
      rw [hg] at this
      exact this
theorem l1s_ev (T : List (List S110)) (h8 : T.length ≤ 8) (h4 : tfour T = true) : ∀ d a : Nat, a + d = T.length → ∃ b, Evt (fun k => spec_IsTriangulation.l1 k a T) b ∧ (b = true ↔ ∀ i : Nat, a ≤ i → i < T.length → ∀ j : Nat, j < 4 → tgood T i j = true) := by
  intro d
  induction d with
  | zero =>
    intro a ha
    refine ⟨true, Evt.succ (G := fun _ => some true) (fun k => ?_) (Evt.const _), ⟨fun _ i h1 h2 => by omega, fun _ => rfl⟩⟩
    simp only [spec_IsTriangulation.l1, spec_l07Tets.f, Option.bind_some]
    rw [if_neg (by omega)]
  | succ d ih =>
    intro a ha
    obtain ⟨b, hb, hbb⟩ := ih (a + 1) (by omega)
    obtain ⟨c, hc, hcc⟩ := l2s_ev T h8 h4 a (by omega) b _ hbb hb 4 0 (by omega)
    refine ⟨c, Evt.succ (fun k => ?_) hc, ?_⟩
    · simp only [spec_IsTriangulation.l1, spec_l07Tets.f, Option.bind_some]
      rw [if_pos (by omega)]
      rfl
    · rw [hcc]
      refine ⟨fun h i h1 h2 j hj => ?_, fun h => ⟨fun i h1 h2 j hj => h i (by omega) h2 j hj, fun j _ hj => h a (Nat.le_refl _) (by omega) j hj⟩⟩
      by_cases hi : i = a
      · subst hi; exact h.2 j (by omega) hj
      · exact h.1 i (by omega) h2 j hj
theorem l0_ev (T : List (List S110)) (h8 : T.length ≤ 8) (b : Bool) (hb : tfour T = true → Evt (fun k => spec_IsTriangulation.l1 k 0 T) b) (hn : tfour T = false → b = false) : ∀ d i : Nat, i + d = T.length → (∀ j, j < i → (T.getD j []).length = 4) → Evt (fun k => spec_IsTriangulation.l0 k i T) b := by
  intro d
  induction d with
  | zero =>
    intro i hi hall
    have h4 : tfour T = true := by
      unfold tfour
      rw [List.all_eq_true]
      intro x hx
      obtain ⟨j, hj, rfl⟩ := List.getElem_of_mem hx
      have := hall j (by omega)
      rw [List.getD_eq_getElem?_getD, List.getElem?_eq_getElem hj] at this
      simpa using this
    refine Evt.succ (fun k => ?_) (hb h4)
    simp only [spec_IsTriangulation.l0]
    rw [if_neg (by omega)]
  | succ d ih =>
    intro i hi hall
    have hrw : rd_L4 T (i : Int) = T.getD i [] := by unfold rd_L4; rw [Int.toNat_natCast]
    by_cases h : (T.getD i []).length = 4
    · refine Evt.succ (fun k => ?_) (ih (i + 1) (by omega) (fun j hj => ?_))
      · simp only [spec_IsTriangulation.l0]
        rw [if_pos (by omega), if_pos (by omega), hrw, if_pos (by omega), w64 _ (by omega)]
        rfl
      · by_cases hji : j = i
        · subst hji; exact h
        · exact hall j (by omega)
    · have h4 : tfour T = false := by
        cases hh : tfour T with
        | false => rfl
        | true =>
          have := row_four hh (a := (i : Int)) (by omega) (by omega)
          rw [Int.toNat_natCast] at this
          exact absurd this h
      rw [hn h4]
      refine Evt.succ (G := fun _ => some false) (fun k => ?_) (Evt.const _)
      simp only [spec_IsTriangulation.l0]
      rw [if_pos (by omega), if_pos (by omega), hrw, if_neg (by omega)]
theorem tri_ev (T : List (List S110)) (hT : T.length ≤ 1048576) : Evt (fun k => spec_IsTriangulation.f k T) (tri T) := by
  by_cases h8 : T.length ≤ 8
  · have h0 : Evt (fun k => spec_IsTriangulation.l0 k ((0 : Nat) : Int) T) (tri T) := by
      refine l0_ev T h8 (tri T) (fun h4 => ?_) (fun h4 => by unfold tri; rw [h4]; simp) T.length 0 (by omega) (fun j hj => by omega)
      obtain ⟨b, hb, hbb⟩ := l1s_ev T h8 h4 T.length 0 (by omega)
      have e : tri T = b := by
        rw [Bool.eq_iff_iff, hbb]
        unfold tri tall
        rw [h4, decide_eq_true h8, Bool.true_and, Bool.true_and, List.all_eq_true]
        constructor
        · intro h i _ hi j hj
          have := h i (List.mem_range.2 hi)
          rw [List.all_eq_true] at this
          exact this j (List.mem_range.2 hj)
        · intro h i hi
          rw [List.all_eq_true]
          intro j hj
          exact h i (by omega) (List.mem_range.1 hi) j (List.mem_range.1 hj)
      rw [e]
      exact hb
    refine Evt.congr (fun k => ?_) h0
    unfold spec_IsTriangulation.f spec_l07Tets.f
    simp only [Option.bind_some]
    rw [if_neg (by omega)]
    rfl
  · have e : tri T = false := by unfold tri; rw [decide_eq_false h8]; rfl
    rw [e]
    refine Evt.congr (G := fun _ => some false) (fun k => ?_) (Evt.const _)
    unfold spec_IsTriangulation.f spec_l07Tets.f
    simp only [Option.bind_some]
    rw [if_pos (by omega)]
end Go.Proofs.Ytibkopejnhihkaa.PFnExactCellCount

namespace Go.Proofs.Ytibkopejnhihkaa.PFnExactCellCount
set_option linter.unusedVariables false
set_option linter.unusedSimpArgs false
open Go.RowKit Go.Proofs.YtibkopejnhihkaaW.PrintWords Go.Proofs.YtibkopejnhihkaaW.PrintLast
open Core (Evt)
/-! ### spec.l08Count -/
theorem fresh_ev (n : Nat) (hn : n ≤ 1000) : Evt (fun k => spec_l08Fresh.f k (n : Int)) (Core.cntL n) := by
  have key : ∀ d i : Nat, i + d = n → Evt (fun k => spec_l08Fresh.l0 k n (Core.cntL i) i) (Core.cntL n) := by
    intro d
    induction d with
    | zero =>
      intro i hi
      have : i = n := by omega
      subst this
      refine Evt.succ (G := fun _ => some _) (fun k => ?_) (Evt.const _)
      simp only [spec_l08Fresh.l0]
      rw [if_neg (by omega)]
    | succ d ih =>
      intro i hi
      refine Evt.succ (fun k => ?_) (ih (i + 1) (by omega))
      simp only [spec_l08Fresh.l0]
      rw [if_pos (by omega), if_pos (by rw [Core.cntL_len]; omega), w64 _ (by omega), Core.cntL_succ]
      rfl
  exact Evt.congr (fun k => rfl) (key n 0 (by omega))
theorem join_eq (l : List Int) (i k : Int) (h : 0 ≤ i ∧ i < l.length ∧ 0 ≤ k ∧ k < l.length) : spec_l08Join.f l i k = some (Core.joinL l i.toNat k.toNat) := by
  unfold spec_l08Join.f
  rw [if_pos h]
theorem jedgeTo_len (m : List Int) (a f : Nat) (x : Int × Int) (k : Nat) : (Core.jedgeTo m a f x k).length = m.length := by
  induction k with
  | zero => rfl
  | succ k ih => unfold Core.jedgeTo; split; rw [Core.joinL_len]; exact ih; exact ih
theorem jvertTo_len (m : List Int) (a f : Nat) (x : Int × Int) (k : Nat) : (Core.jvertTo m a f x k).length = m.length := by
  induction k with
  | zero => rfl
  | succ k ih => unfold Core.jvertTo; split; exact ih; rw [Core.joinL_len]; exact ih
theorem c3_ev (T : List (List S110)) (n : Nat) (hn : n ≤ 8) (xv me xf : List Int) (a f : Nat) (x0 x1 : Int) (r : (List (List Int)) × (List (List Int)) × (List (List Int)) × List Int) (hme : me.length = 6 * n) (ha : a < n) (hf : f < 4) (h0 : 0 ≤ x0) (h1 : x0 < n) (p0 : 0 ≤ x1) (p1 : x1 < 24)
    (h : Evt (fun k => spec_l08Count.l1 k n xv (Core.jedgeTo me a f (x0, x1) 6) xf a ((f + 1 : Nat) : Int) T) r) :
    ∀ d e : Nat, e + d = 6 → Evt (fun k => spec_l08Count.l3 k n xv (Core.jedgeTo me a f (x0, x1) e) xf a f e T x0 x1) r := by
  intro d
  induction d with
  | zero =>
    intro e he
    have : e = 6 := by omega
    subst this
    refine Evt.succ (fun k => ?_) h
    simp only [spec_l08Count.l3]
    rw [if_neg (by omega), w64 _ (by omega)]
    rfl
  | succ d ih =>
    intro e he
    have hlt : e < 6 := by omega
    have hnext := ih (e + 1) (by omega)
    have hw : wrap64 ((e : Int) + 1) = ((e + 1 : Nat) : Int) := by rw [w64 _ (by omega)]; rfl
    obtain ⟨u, v, hu, hv, hu4, hv4, huv⟩ := Core.ends_bd e hlt
    refine Evt.succ (G := fun k => spec_l08Count.j4 k n xv (Core.jedgeTo me a f (x0, x1) e) xf a f e (Core.endA e) (Core.endB e) (decide (Core.endA e ≠ f ∧ Core.endB e ≠ f)) T x0 x1) (fun k => ?_) ?_
    · simp only [spec_l08Count.l3, ends_eq e hlt, Option.bind_some]
      rw [if_pos (by omega)]
      by_cases c1 : Core.endA e = f
      · rw [if_pos c1]; simp [c1]
      · rw [if_neg c1]
        by_cases c2 : Core.endB e = f
        · simp [c1, c2]
        · rw [show (Core.endB e != (f : Int)) = true by simpa using c2, decide_eq_true ⟨c1, c2⟩]
    by_cases hc : Core.endA e ≠ f ∧ Core.endB e ≠ f
    · rw [decide_eq_true hc]
      have hb := Core.edge_bd x1 e hlt p0 p1
      have hA := at_ev x1 (Core.endA e) p0 p1 (by omega) (by omega)
      have hB := at_ev x1 (Core.endB e) p0 p1 (by omega) (by omega)
      have ba := pm_bd x1 (Core.endA e) p0 p1 (by omega) (by omega)
      have bb := pm_bd x1 (Core.endB e) p0 p1 (by omega) (by omega)
      have hne : Core.pm x1 (Core.endA e) ≠ Core.pm x1 (Core.endB e) := by
        have := Core.pm_inj x1 u v p0 p1 hu4 hv4 huv
        rw [hu, hv]
        unfold Core.pm
        rw [Int.toNat_natCast, Int.toNat_natCast]
        exact this
      have hE := edge_ev _ _ ba.1 ba.2 bb.1 bb.2 hne
      refine Evt.succ (G := fun k => (spec_l06At.f k x1 (Core.endA e)).bind fun t280 => (spec_l06At.f k x1 (Core.endB e)).bind fun t281 => (spec_l08Edge.f k t280 t281).bind fun t282 => (spec_l08Join.f (Core.jedgeTo me a f (x0, x1) e) (wrap64 ((wrap64 (6 * (a : Int))) + e)) (wrap64 ((wrap64 (6 * x0)) + t282))).bind fun t283 => spec_l08Count.l3 k n xv t283 xf a f (wrap64 ((e : Int) + 1)) T x0 x1) (fun k => ?_) ?_
      · simp only [spec_l08Count.j4, if_true]
      refine Evt.bind hA (Evt.bind hB (Evt.bind hE ?_))
      rw [w64 (6 * (a : Int)) (by omega), w64 (6 * x0) (by omega), w64 (6 * (a : Int) + e) (by omega), w64 (6 * x0 + _) (by omega), hw]
      rw [join_eq _ _ _ ⟨by omega, by rw [jedgeTo_len, hme]; omega, by omega, by rw [jedgeTo_len, hme]; omega⟩]
      have e1 : Core.jedgeTo me a f (x0, x1) (e + 1) = Core.joinL (Core.jedgeTo me a f (x0, x1) e) (6 * (a : Int) + e).toNat (6 * x0 + Core.edgeN (Core.pm x1 (Core.endA e)) (Core.pm x1 (Core.endB e))).toNat := by
        rw [show (6 * (a : Int) + e).toNat = 6 * a + e by omega]
        conv => lhs; unfold Core.jedgeTo
        rw [if_pos hc]
      rw [← e1]
      exact hnext
    · rw [decide_eq_false hc]
      have e1 : Core.jedgeTo me a f (x0, x1) (e + 1) = Core.jedgeTo me a f (x0, x1) e := by
        conv => lhs; unfold Core.jedgeTo
        rw [if_neg hc]
      rw [e1] at hnext
      refine Evt.succ (fun k => ?_) hnext
      simp only [spec_l08Count.j4, Bool.false_eq_true, if_false, hw]
theorem c2_ev (T : List (List S110)) (n : Nat) (hn : n ≤ 8) (mv me xf : List Int) (a f : Nat) (x0 x1 : Int) (r : (List (List Int)) × (List (List Int)) × (List (List Int)) × List Int) (hmv : mv.length = 4 * n) (ha : a < n) (hf : f < 4) (h0 : 0 ≤ x0) (h1 : x0 < n) (p0 : 0 ≤ x1) (p1 : x1 < 24)
    (h : Evt (fun k => spec_l08Count.l3 k n (Core.jvertTo mv a f (x0, x1) 4) me xf a f ((0 : Nat) : Int) T x0 x1) r) :
    ∀ d v : Nat, v + d = 4 → Evt (fun k => spec_l08Count.l2 k n (Core.jvertTo mv a f (x0, x1) v) me xf a f v T x0 x1) r := by
  intro d
  induction d with
  | zero =>
    intro v hv
    have : v = 4 := by omega
    subst this
    refine Evt.succ (fun k => ?_) h
    simp only [spec_l08Count.l2]
    rw [if_neg (by omega)]
    rfl
  | succ d ih =>
    intro v hv
    have hnext := ih (v + 1) (by omega)
    have hw : wrap64 ((v : Int) + 1) = ((v + 1 : Nat) : Int) := by rw [w64 _ (by omega)]; rfl
    by_cases hvf : v = f
    · have e1 : Core.jvertTo mv a f (x0, x1) (v + 1) = Core.jvertTo mv a f (x0, x1) v := by
        conv => lhs; unfold Core.jvertTo
        rw [if_pos hvf]
      rw [e1] at hnext
      refine Evt.succ (fun k => ?_) hnext
      simp only [spec_l08Count.l2]
      rw [if_pos (by omega), if_pos (by omega), hw]
    · have bp := pm_bd x1 v p0 p1 (by omega) (by omega)
      have hA := at_ev x1 v p0 p1 (by omega) (by omega)
      refine Evt.succ (G := fun k => (spec_l06At.f k x1 v).bind fun t276 => (spec_l08Join.f (Core.jvertTo mv a f (x0, x1) v) (wrap64 ((wrap64 (4 * (a : Int))) + v)) (wrap64 ((wrap64 (4 * x0)) + t276))).bind fun t277 => spec_l08Count.l2 k n t277 me xf a f (wrap64 ((v : Int) + 1)) T x0 x1) (fun k => ?_) ?_
      · simp only [spec_l08Count.l2]
        rw [if_pos (by omega), if_neg (by omega)]
      refine Evt.bind hA ?_
      rw [w64 (4 * (a : Int)) (by omega), w64 (4 * x0) (by omega), w64 (4 * (a : Int) + v) (by omega), w64 (4 * x0 + _) (by omega), hw]
      rw [join_eq _ _ _ ⟨by omega, by rw [jvertTo_len, hmv]; omega, by omega, by rw [jvertTo_len, hmv]; omega⟩]
      have e1 : Core.jvertTo mv a f (x0, x1) (v + 1) = Core.joinL (Core.jvertTo mv a f (x0, x1) v) (4 * (a : Int) + v).toNat (4 * x0 + Core.pm x1 v).toNat := by
        rw [show (4 * (a : Int) + v).toNat = 4 * a + v by omega]
        conv => lhs; unfold Core.jvertTo
        rw [if_neg hvf]
      rw [← e1]
      exact hnext
theorem prs_at (T : List (List S110)) (h4 : tfour T = true) (a f : Nat) (ha : a < T.length) (hf : f < 4) : ((prs T).getD a []).getD f (0, 0) = ((tface T a f).f0, (tface T a f).f1) := by
  have e1 : (prs T).getD a [] = (T.getD a []).map fun x => (x.f0, x.f1) := by
    simp [prs, List.getD_eq_getElem?_getD, List.getElem?_map, List.getElem?_eq_getElem ha]
  have r4 := row_four h4 (a := (a : Int)) (by omega) (by omega)
  rw [Int.toNat_natCast] at r4
  rw [e1]
  unfold tface
  rw [Int.toNat_natCast, Int.toNat_natCast]
  have hf2 : f < (T.getD a []).length := by omega
  generalize T.getD a ([] : List S110) = row at hf2 ⊢
  rw [List.getD_eq_getElem?_getD, List.getD_eq_getElem?_getD, List.getElem?_map, List.getElem?_eq_getElem hf2]
  rfl
theorem tri_parts {T : List (List S110)} (h : tri T = true) : T.length ≤ 8 ∧ tfour T = true := by
  unfold tri at h
  simp only [Bool.and_eq_true, decide_eq_true_eq] at h
  exact ⟨h.1, h.2.1⟩
theorem glF_len {step : List Int → Nat → Nat → Int × Int → List Int} (hs : ∀ s a f x, (step s a f x).length = s.length) (s : List Int) (a : Nat) (row : List (Int × Int)) (f : Nat) : (Core.glF step s a row f).length = s.length :=
  Core.glF_keep (Q := fun l => l.length = s.length) (fun s' a f x h => (hs s' a f x).trans h) s a row f rfl
theorem c1_ev (T : List (List S110)) (hT : tri T = true) (mv me mf : List Int) (hmv : mv.length = 4 * T.length) (hme : me.length = 6 * T.length) (hmf : mf.length = 4 * T.length) (a : Nat) (ha : a < T.length) (r : (List (List Int)) × (List (List Int)) × (List (List Int)) × List Int)
    (h : Evt (fun k => spec_l08Count.l0 k T.length (Core.glF Core.jvert mv a ((prs T).getD a []) 4) (Core.glF Core.jedge me a ((prs T).getD a []) 4) (Core.glF Core.jface mf a ((prs T).getD a []) 4) ((a + 1 : Nat) : Int) T) r) :
    ∀ d f : Nat, f + d = 4 → Evt (fun k => spec_l08Count.l1 k T.length (Core.glF Core.jvert mv a ((prs T).getD a []) f) (Core.glF Core.jedge me a ((prs T).getD a []) f) (Core.glF Core.jface mf a ((prs T).getD a []) f) a f T) r := by
  obtain ⟨h8, h4⟩ := tri_parts hT
  have hF := tri_fine hT
  intro d
  induction d with
  | zero =>
    intro f hf
    have : f = 4 := by omega
    subst this
    refine Evt.succ (fun k => ?_) h
    simp only [spec_l08Count.l1]
    rw [if_neg (by omega), w64 _ (by omega)]
    rfl
  | succ d ih =>
    intro f hf
    have hlt : f < 4 := by omega
    have hnext := ih (f + 1) (by omega)
    have hw : wrap64 ((f : Int) + 1) = ((f + 1 : Nat) : Int) := by rw [w64 _ (by omega)]; rfl
    have hat := prs_at T h4 a f ha hlt
    have hfin := (hF.2 a (by rw [prs_len]; exact ha)).2 f hlt
    rw [hat, prs_len] at hfin
    have hrow : (rd_L4 T (a : Int)).length = 4 := by
      have := row_four h4 (a := (a : Int)) (by omega) (by omega)
      unfold rd_L4
      exact this
    have hface := face_is T a f
    have gl : ∀ (st : List Int → Nat → Nat → Int × Int → List Int) (m : List Int), Core.glF st m a ((prs T).getD a []) (f + 1) = if (tface T a f).f0 < 0 then Core.glF st m a ((prs T).getD a []) f else st (Core.glF st m a ((prs T).getD a []) f) a f ((tface T a f).f0, (tface T a f).f1) := by
      intro st m
      conv => lhs; unfold Core.glF
      rw [hat]
    rw [gl, gl, gl] at hnext
    generalize tface T a f = x at *
    by_cases hneg : x.f0 < 0
    · rw [if_pos hneg, if_pos hneg, if_pos hneg] at hnext
      refine Evt.succ (fun k => ?_) hnext
      simp only [spec_l08Count.l1]
      rw [if_pos (by omega), if_pos (by omega), if_pos (by omega), if_pos (by omega), if_pos (by omega), hface, if_pos hneg, hw]
    · rw [if_neg hneg, if_neg hneg, if_neg hneg] at hnext
      obtain ⟨f1, f2, f3⟩ := hfin (by dsimp only; omega)
      dsimp only at f1 f2 f3
      have lv : (Core.glF Core.jvert mv a ((prs T).getD a []) f).length = 4 * T.length := by rw [glF_len (step := Core.jvert) (fun s a f x => jvertTo_len _ _ _ _ _)]; exact hmv
      have le : (Core.glF Core.jedge me a ((prs T).getD a []) f).length = 6 * T.length := by rw [glF_len (step := Core.jedge) (fun s a f x => jedgeTo_len _ _ _ _ _)]; exact hme
      have lf : (Core.glF Core.jface mf a ((prs T).getD a []) f).length = 4 * T.length := by rw [glF_len (step := Core.jface) (fun s a f x => Core.joinL_len _ _ _)]; exact hmf
      have hA := at_ev x.f1 f f2 f3 (by omega) (by omega)
      have bp := pm_bd x.f1 f f2 f3 (by omega) (by omega)
      have h3 := c3_ev T T.length h8 (Core.jvert (Core.glF Core.jvert mv a ((prs T).getD a []) f) a f (x.f0, x.f1)) _ _ a f x.f0 x.f1 r le ha hlt (by omega) f1 f2 f3 hnext 6 0 (by omega)
      have h2 := c2_ev T T.length h8 _ _ _ a f x.f0 x.f1 r lv ha hlt (by omega) f1 f2 f3 h3 4 0 (by omega)
      refine Evt.succ (G := fun k => (spec_l06At.f k x.f1 f).bind fun t274 => (spec_l08Join.f (Core.glF Core.jface mf a ((prs T).getD a []) f) (wrap64 ((wrap64 (4 * (a : Int))) + f)) (wrap64 ((wrap64 (4 * x.f0)) + t274))).bind fun t275 => spec_l08Count.l2 k T.length (Core.glF Core.jvert mv a ((prs T).getD a []) f) (Core.glF Core.jedge me a ((prs T).getD a []) f) t275 a f 0 T x.f0 x.f1) (fun k => ?_) ?_
      · simp only [spec_l08Count.l1]
        rw [if_pos (by omega), if_pos (by omega), if_pos (by omega), if_pos (by omega), if_pos (by omega), hface, if_neg hneg]
      refine Evt.bind hA ?_
      rw [w64 (4 * (a : Int)) (by omega), w64 (4 * x.f0) (by omega), w64 (4 * (a : Int) + f) (by omega), w64 (4 * x.f0 + _) (by omega)]
      rw [join_eq _ _ _ ⟨by omega, by rw [lf]; omega, by omega, by rw [lf]; omega⟩]
      rw [show (4 * (a : Int) + f).toNat = 4 * a + f by omega]
      exact h2
theorem c0_ev (T : List (List S110)) (hT : tri T = true) (mv me mf : List Int) (hmv : mv.length = 4 * T.length) (hme : me.length = 6 * T.length) (hmf : mf.length = 4 * T.length) (r : (List (List Int)) × (List (List Int)) × (List (List Int)) × List Int)
    (h : Evt (fun k => spec_l08Count.l0 k T.length (Core.glT Core.jvert mv (prs T) T.length) (Core.glT Core.jedge me (prs T) T.length) (Core.glT Core.jface mf (prs T) T.length) T.length T) r) :
    ∀ d a : Nat, a + d = T.length → Evt (fun k => spec_l08Count.l0 k T.length (Core.glT Core.jvert mv (prs T) a) (Core.glT Core.jedge me (prs T) a) (Core.glT Core.jface mf (prs T) a) a T) r := by
  intro d
  induction d with
  | zero =>
    intro a ha
    have : a = T.length := by omega
    subst this
    exact h
  | succ d ih =>
    intro a ha
    have hnext := ih (a + 1) (by omega)
    have h1 := c1_ev T hT (Core.glT Core.jvert mv (prs T) a) (Core.glT Core.jedge me (prs T) a) (Core.glT Core.jface mf (prs T) a)
      (by rw [Core.glT_len (step := Core.jvert) (fun s a f x => jvertTo_len _ _ _ _ _)]; exact hmv) (by rw [Core.glT_len (step := Core.jedge) (fun s a f x => jedgeTo_len _ _ _ _ _)]; exact hme) (by rw [Core.glT_len (step := Core.jface) (fun s a f x => Core.joinL_len _ _ _)]; exact hmf) a (by omega) r hnext 4 0 (by omega)
    refine Evt.succ (fun k => ?_) h1
    simp only [spec_l08Count.l0]
    rw [if_pos (by omega)]
    rfl
end Go.Proofs.Ytibkopejnhihkaa.PFnExactCellCount

namespace Go.Proofs.Ytibkopejnhihkaa.PFnExactCellCount
set_option linter.unusedVariables false
set_option linter.unusedSimpArgs false
open Go.RowKit Go.Proofs.YtibkopejnhihkaaW.PrintWords Go.Proofs.YtibkopejnhihkaaW.PrintLast
open Core (Evt)
/-! ### spec.l08Rows -/
/-- The numbers of the first places before i; zeros elsewhere. -/
def numTo (m : List Int) (i : Nat) : List Int := (List.range m.length).map fun (j : Nat) => if j < i ∧ m.getD j 0 = (j : Int) then ((Core.rank m j : Nat) : Int) else 0
theorem numTo_len (m : List Int) (i : Nat) : (numTo m i).length = m.length := by simp [numTo]
theorem numTo_get (m : List Int) (i j : Nat) (hj : j < m.length) : (numTo m i).getD j 0 = if j < i ∧ m.getD j 0 = (j : Int) then ((Core.rank m j : Nat) : Int) else 0 := by
  unfold numTo
  rw [List.getD_eq_getElem?_getD, List.getElem?_map, List.getElem?_range hj]
  rfl
theorem numTo_zero (m : List Int) : numTo m 0 = List.replicate m.length 0 := by
  apply List.ext_getElem
  · simp [numTo]
  · intro j h1 h2
    simp [numTo]
theorem numTo_no (m : List Int) (i : Nat) (h : ¬ m.getD i 0 = (i : Int)) : numTo m (i + 1) = numTo m i := by
  unfold numTo
  apply List.map_congr_left
  intro j hj
  by_cases hji : j = i
  · subst hji
    rw [if_neg (fun h' => h h'.2), if_neg (fun h' => h h'.2)]
  · by_cases hc : m.getD j 0 = (j : Int)
    · by_cases hl : j < i
      · rw [if_pos ⟨by omega, hc⟩, if_pos ⟨hl, hc⟩]
      · rw [if_neg (fun h' => by omega), if_neg (fun h' => by omega)]
    · rw [if_neg (fun h' => hc h'.2), if_neg (fun h' => hc h'.2)]
theorem numTo_yes (m : List Int) (i : Nat) (hi : i < m.length) (h : m.getD i 0 = (i : Int)) : numTo m (i + 1) = (numTo m i).set i ((Core.rank m i : Nat) : Int) := by
  apply List.ext_getElem
  · simp [numTo]
  · intro j h1 h2
    have hj : j < m.length := by rw [numTo_len] at h1; exact h1
    have g1 := numTo_get m (i + 1) j hj
    have g2 := numTo_get m i j hj
    rw [List.getD_eq_getElem?_getD, List.getElem?_eq_getElem h1, Option.getD_some] at g1
    rw [List.getElem_set]
    rw [List.getD_eq_getElem?_getD, List.getElem?_eq_getElem (by rw [numTo_len]; exact hj), Option.getD_some] at g2
    rw [g1]
    by_cases hji : j = i
    · subst hji
      rw [if_pos ⟨by omega, h⟩, if_pos rfl]
    · rw [if_neg (show ¬ i = j from fun h' => hji h'.symm), g2]
      by_cases hc : m.getD j 0 = (j : Int)
      · by_cases hl : j < i
        · rw [if_pos ⟨by omega, hc⟩, if_pos ⟨hl, hc⟩]
        · rw [if_neg (fun h' => by omega), if_neg (fun h' => by omega)]
      · rw [if_neg (fun h' => hc h'.2), if_neg (fun h' => hc h'.2)]
theorem rank_succ (m : List Int) (i : Nat) : Core.rank m (i + 1) = if m.getD i 0 = (i : Int) then Core.rank m i + 1 else Core.rank m i := by
  unfold Core.rank
  rw [Core.roots_succ]
  split <;> simp
theorem rank_le (m : List Int) (i : Nat) : Core.rank m i ≤ i := by
  induction i with
  | zero => simp [Core.rank, Core.roots]
  | succ i ih => rw [rank_succ]; split <;> omega
theorem rows0_ev (m : List Int) (w : Int) (hm : m.length ≤ 1000) (r : (List (List Int)) × Int) (h : Evt (fun k => spec_l08Rows.l1 k m w (numTo m m.length) (Core.rank m m.length : Nat) [] 0) r) :
    ∀ d i : Nat, i + d = m.length → Evt (fun k => spec_l08Rows.l0 k m w (numTo m i) (Core.rank m i : Nat) [] i) r := by
  intro d
  induction d with
  | zero =>
    intro i hi
    have : i = m.length := by omega
    subst this
    refine Evt.succ (fun k => ?_) h
    simp only [spec_l08Rows.l0]
    rw [if_neg (by omega)]
  | succ d ih =>
    intro i hi
    have hnext := ih (i + 1) (by omega)
    have hr := rank_le m i
    have hrd : rd m (i : Int) = m.getD i 0 := by unfold rd; rw [Int.toNat_natCast]
    refine Evt.succ (fun k => ?_) hnext
    simp only [spec_l08Rows.l0]
    rw [if_pos (by omega), if_pos (by omega), hrd, numTo_len]
    by_cases hc : m.getD i 0 = (i : Int)
    · rw [if_pos hc, if_pos (by omega), w64 _ (by omega), w64 _ (by omega), rank_succ, if_pos hc, numTo_yes m i (by omega) hc, Int.toNat_natCast]
      rfl
    · rw [if_neg hc, w64 _ (by omega), rank_succ, if_neg hc, numTo_no m i hc]
      rfl
/-- A row: w numbers from place i on. -/
def rowAt (m : List Int) (i w : Nat) : List Int := (List.range w).map fun (j : Nat) => ((Core.rank m (m.getD (i + j) 0).toNat : Nat) : Int)
def rowsOf (m : List Int) (w q : Nat) : List (List Int) := (List.range q).map fun (t : Nat) => rowAt m (t * w) w
theorem rowAt_succ (m : List Int) (i w : Nat) : rowAt m i (w + 1) = rowAt m i w ++ [((Core.rank m (m.getD (i + w) 0).toNat : Nat) : Int)] := by
  unfold rowAt; rw [List.range_succ, List.map_append]; rfl
theorem rowsOf_succ (m : List Int) (w q : Nat) : rowsOf m w (q + 1) = rowsOf m w q ++ [rowAt m (q * w) w] := by
  unfold rowsOf; rw [List.range_succ, List.map_append]; rfl
theorem rowAt_len (m : List Int) (i w : Nat) : (rowAt m i w).length = w := by simp [rowAt]
theorem rowsOf_len (m : List Int) (w q : Nat) : (rowsOf m w q).length = q := by simp [rowsOf]
theorem rows2_ev (m : List Int) (hc : Core.Canon m) (hm : m.length ≤ 1000) (w : Nat) (hw : w ≤ 6) (i t : Nat) (hi : i + w ≤ m.length) (ht : t ≤ 1000) (out : List (List Int)) (ho : out.length = t) (c : Int) (r : (List (List Int)) × Int) (h : Evt (fun k => spec_l08Rows.l1 k m w (numTo m m.length) c (out ++ [rowAt m i w]) ((i + w : Nat) : Int)) r) :
    ∀ d j : Nat, j + d = w → Evt (fun k => spec_l08Rows.l2 k m w (numTo m m.length) c out i (rowAt m i j) ((i + j : Nat) : Int)) r := by
  intro d
  induction d with
  | zero =>
    intro j hj
    have : j = w := by omega
    subst this
    refine Evt.succ (fun k => ?_) h
    simp only [spec_l08Rows.l2]
    rw [w64 _ (by omega), if_neg (by omega), if_pos (by omega)]
    rfl
  | succ d ih =>
    intro j hj
    have hnext := ih (j + 1) (by omega)
    have hrd : rd m ((i + j : Nat) : Int) = m.getD (i + j) 0 := by unfold rd; rw [Int.toNat_natCast]
    obtain ⟨c0, c1, c2⟩ := hc (i + j) (by omega)
    have hl : (m.getD (i + j) 0).toNat < m.length := by omega
    have hnum : rd (numTo m m.length) (m.getD (i + j) 0) = ((Core.rank m (m.getD (i + j) 0).toNat : Nat) : Int) := by
      unfold rd
      rw [numTo_get _ _ _ hl, if_pos ⟨hl, by rw [c2]; omega⟩]
    refine Evt.succ (fun k => ?_) hnext
    simp only [spec_l08Rows.l2]
    rw [w64 _ (by omega), if_pos (by omega), if_pos (by omega), if_pos (by omega), hrd, if_pos c0, if_pos (by rw [numTo_len]; omega), if_pos (by rw [rowAt_len]; omega), hnum, w64 _ (by omega), rowAt_succ]
    rfl
theorem rows1_ev (m : List Int) (hc : Core.Canon m) (hm : m.length ≤ 1000) (w : Nat) (hw0 : 0 < w) (hw : w ≤ 6) (q : Nat) (hq : m.length = q * w) (c : Int) :
    ∀ d t : Nat, t + d = q → Evt (fun k => spec_l08Rows.l1 k m w (numTo m m.length) c (rowsOf m w t) ((t * w : Nat) : Int)) (rowsOf m w q, c) := by
  intro d
  induction d with
  | zero =>
    intro t ht
    have : t = q := by omega
    subst this
    refine Evt.succ (G := fun _ => some (rowsOf m w t, c)) (fun k => ?_) (Evt.const _)
    simp only [spec_l08Rows.l1]
    rw [if_neg (by omega)]
  | succ d ih =>
    intro t ht
    have hnext := ih (t + 1) (by omega)
    have e1 : (t + 1) * w = t * w + w := Nat.succ_mul t w
    have e2 : (t + 1) * w ≤ q * w := Nat.mul_le_mul_right w (by omega)
    have e3 : t * 1 ≤ t * w := Nat.mul_le_mul_left t (by omega)
    rw [e1, rowsOf_succ] at hnext
    have h2 := rows2_ev m hc hm w hw (t * w) t (by omega) (by omega) (rowsOf m w t) (rowsOf_len m w t) c _ hnext w 0 (by omega)
    refine Evt.succ (fun k => ?_) h2
    simp only [spec_l08Rows.l1]
    rw [if_pos (by omega)]
    rfl
theorem rows_ev (m : List Int) (hc : Core.Canon m) (hm : m.length ≤ 1000) (w : Nat) (hw0 : 0 < w) (hw : w ≤ 6) (q : Nat) (hq : m.length = q * w) : Evt (fun k => spec_l08Rows.f k m w) (rowsOf m w q, ((Core.rank m m.length : Nat) : Int)) := by
  have h1 := rows1_ev m hc hm w hw0 hw q hq (Core.rank m m.length : Nat) q 0 (by omega)
  have h0 := rows0_ev m w hm _ (by rw [Nat.zero_mul] at h1; exact h1) m.length 0 (by omega)
  refine Evt.congr (fun k => ?_) h0
  unfold spec_l08Rows.f
  rw [if_pos (by omega), if_pos (by omega), Int.toNat_natCast, numTo_zero]
  rfl
theorem count_ev (T : List (List S110)) (hT : tri T = true) : Evt (fun k => spec_l08Count.f k T) (rowsOf (Core.markV (prs T)) 4 T.length, rowsOf (Core.markE (prs T)) 6 T.length, rowsOf (Core.markF (prs T)) 4 T.length, Core.countsL (prs T)) := by
  obtain ⟨h8, h4⟩ := tri_parts hT
  have hF := tri_fine hT
  obtain ⟨⟨cf, lf⟩, ⟨ce, le⟩, ⟨cv, lv⟩⟩ := Core.marks_fine hF
  have hcounts : Core.countsL (prs T) = [((Core.rank (Core.markV (prs T)) (Core.markV (prs T)).length : Nat) : Int), ((Core.rank (Core.markE (prs T)) (Core.markE (prs T)).length : Nat) : Int), ((Core.rank (Core.markF (prs T)) (Core.markF (prs T)).length : Nat) : Int), T.length] := by
    unfold Core.countsL
    rw [(Core.vertL_is hF).2, (Core.edgeL_is hF).2, (Core.faceL_is hF).2, prs_len]
  rw [prs_len] at lf le lv
  rw [hcounts]
  have rv := rows_ev (Core.markV (prs T)) cv (by omega) 4 (by omega) (by omega) T.length (by omega)
  have re := rows_ev (Core.markE (prs T)) ce (by omega) 6 (by omega) (by omega) T.length (by omega)
  have rf := rows_ev (Core.markF (prs T)) cf (by omega) 4 (by omega) (by omega) T.length (by omega)
  have hend : Evt (fun k => spec_l08Count.l0 k T.length (Core.markV (prs T)) (Core.markE (prs T)) (Core.markF (prs T)) T.length T) (rowsOf (Core.markV (prs T)) 4 T.length, rowsOf (Core.markE (prs T)) 6 T.length, rowsOf (Core.markF (prs T)) 4 T.length, [((Core.rank (Core.markV (prs T)) (Core.markV (prs T)).length : Nat) : Int), ((Core.rank (Core.markE (prs T)) (Core.markE (prs T)).length : Nat) : Int), ((Core.rank (Core.markF (prs T)) (Core.markF (prs T)).length : Nat) : Int), (T.length : Int)]) := by
    refine Evt.succ (G := fun k => (spec_l08Rows.f k (Core.markV (prs T)) 4).bind fun bt256 => (spec_l08Rows.f k (Core.markE (prs T)) 6).bind fun bt261 => (spec_l08Rows.f k (Core.markF (prs T)) 4).bind fun bt266 => some (bt256.1, bt261.1, bt266.1, [bt256.2, bt261.2, bt266.2, (T.length : Int)])) (fun k => ?_) ?_
    · simp only [spec_l08Count.l0]
      rw [if_neg (by omega)]
      rfl
    exact Evt.bind rv (Evt.bind re (Evt.bind rf (Evt.const _)))
  have hlen := prs_len T
  have h0 := c0_ev T hT (Core.cntL (4 * T.length)) (Core.cntL (6 * T.length)) (Core.cntL (4 * T.length)) (Core.cntL_len _) (Core.cntL_len _) (Core.cntL_len _) _ (by
    unfold Core.markV Core.markE Core.markF at hend
    rw [hlen] at hend
    exact hend) T.length 0 (by omega)
  refine Evt.congr (G := fun k => (spec_l08Fresh.f k ((4 * T.length : Nat) : Int)).bind fun t243 => (spec_l08Fresh.f k ((6 * T.length : Nat) : Int)).bind fun t246 => (spec_l08Fresh.f k ((4 * T.length : Nat) : Int)).bind fun t249 => spec_l08Count.l0 k T.length t243 t246 t249 0 T) (fun k => ?_) ?_
  · unfold spec_l08Count.f spec_l07Tets.f
    simp only [Option.bind_some]
    rw [w64 (4 * (T.length : Int)) (by omega), w64 (6 * (T.length : Int)) (by omega)]
    rfl
  · have := Evt.bind (B := fun k t243 => (spec_l08Fresh.f k ((6 * T.length : Nat) : Int)).bind fun t246 => (spec_l08Fresh.f k ((4 * T.length : Nat) : Int)).bind fun t249 => spec_l08Count.l0 k T.length t243 t246 t249 0 T) (fresh_ev (4 * T.length) (by omega)) (Evt.bind (fresh_ev (6 * T.length) (by omega)) (Evt.bind (fresh_ev (4 * T.length) (by omega)) h0))
    unfold Core.markV Core.markE Core.markF
    rw [hlen]
    exact this
end Go.Proofs.Ytibkopejnhihkaa.PFnExactCellCount

namespace Go.Proofs.Ytibkopejnhihkaa.PFnExactCellCount
set_option linter.unusedVariables false
set_option linter.unusedSimpArgs false
open Go.RowKit Go.Proofs.YtibkopejnhihkaaW.PrintWords Go.Proofs.YtibkopejnhihkaaW.PrintLast
open Core (Evt)
def cells (T : List (List S110)) (a : Int) : Int := if tri T = true ∧ 0 ≤ a ∧ a ≤ 3 then rd (Core.countsL (prs T)) a else -1
theorem spec_ev (T : List (List S110)) (a : Int) (hT : T.length ≤ 1048576) : Evt (fun k => spec_CellCount.f k T a) (cells T a) := by
  have h1 := tri_ev T hT
  by_cases h : tri T = true
  · rw [h] at h1
    refine Evt.congr (fun k => rfl) (Evt.bind h1 ?_)
    simp only [if_true, spec_l07In.f]
    by_cases h0 : 0 ≤ a
    · by_cases h3 : a ≤ 3
      · simp only [ge_iff_le, h0, h3, if_true, decide_true, Option.bind_some]
        have e : cells T a = rd (Core.countsL (prs T)) a := by unfold cells; rw [if_pos ⟨h, h0, h3⟩]
        rw [e]
        have hl : (Core.countsL (prs T)).length = 4 := rfl
        refine Evt.bind (count_ev T h) (Evt.of_eq ?_)
        dsimp only
        rw [if_pos (by omega)]
      · have e : cells T a = -1 := by unfold cells; rw [if_neg (fun h => h3 h.2.2)]
        rw [e]
        exact Evt.congr (G := fun _ => some (-1)) (fun k => by simp [h0, h3]) (Evt.const _)
    · have e : cells T a = -1 := by unfold cells; rw [if_neg (fun h => h0 h.2.1)]
      rw [e]
      exact Evt.congr (G := fun _ => some (-1)) (fun k => by simp [h0]) (Evt.const _)
  · have h' : tri T = false := by simpa using h
    rw [h'] at h1
    refine Evt.congr (fun k => rfl) (Evt.bind h1 ?_)
    have e : cells T a = -1 := by unfold cells; rw [if_neg (fun h2 => h h2.1)]
    rw [e]
    exact Evt.congr (G := fun _ => some (-1)) (fun k => rfl) (Evt.const _)
theorem impl_eq (T : List (List S110)) (a : Int) : impl_CellCount.f T a = some (cells T a) := by
  unfold impl_CellCount.f impl_isTriangulation.f impl_inRange.f cells
  simp only [Option.bind_some]
  by_cases h : tri T = true
  · rw [if_pos h]
    by_cases h0 : 0 ≤ a
    · by_cases h3 : a ≤ 3
      · have hl : (Core.countsL (prs T)).length = 4 := rfl
        rw [if_pos h0, if_pos ⟨h, h0, h3⟩, decide_eq_true h3]
        unfold impl_Triangulation_counts.f
        rw [if_pos h]
        simp only [Option.bind_some, if_true]
        rw [if_pos h0, if_pos (by omega)]
      · rw [if_pos h0, if_neg (fun h => h3 h.2.2), decide_eq_false h3]
        rfl
    · rw [if_neg h0, if_neg (fun h => h0 h.2.1)]
      rfl
  · rw [if_neg h, if_neg (fun h2 => h h2.1)]
theorem law_ev (T : List (List S144)) (a : Int) (hT : T.length ≤ maxLen) (hr : ∀ x ∈ T, x.length ≤ maxLen) : Evt (fun k => laws_FnExactCellCount.f k T a) true := by
  obtain ⟨s, hs, hb⟩ := sz_ev T hT hr
  refine Evt.congr (fun k => rfl) (Evt.bind hs ?_)
  by_cases hneg : s < 0
  · exact Evt.congr (fun k => by rw [if_pos hneg]) (Evt.const true)
  obtain ⟨b1, b2⟩ := hb (by omega)
  have hto := to_ev T b1 b2
  have hl : (conv T).length ≤ 1048576 := by simpa [conv] using b1
  have heq := eq_ev (conv T) hl (fun j hj => by
    have hj' : j < T.length := by simpa [conv] using hj
    have := b2 j hj'
    simpa [conv, List.getD_eq_getElem?_getD, List.getElem?_map, List.getElem?_eq_getElem hj'] using this)
  refine Evt.congr (fun k => by rw [if_neg hneg]) ?_
  refine Evt.bind hto (Evt.bind (spec_ev (conv T) a hl) (Evt.bind hto ?_))
  refine Evt.congr (G := fun k => (laws_toTriangulation.f k T).bind fun t355 => (laws_eqTriangulation.f k (conv T) t355).bind fun t358 => (if t358 = true then (some true) else (some false))) (fun k => ?_) ?_
  · simp [impl_eq]
  exact Evt.bind hto (Evt.bind heq (Evt.of_eq rfl))
end Go.Proofs.Ytibkopejnhihkaa.PFnExactCellCount
namespace Go.Proofs.Ytibkopejnhihkaa.Pure
open Go.RowKit Go.Proofs.Ytibkopejnhihkaa.PFnExactCellCount Go.Proofs.YtibkopejnhihkaaW.PrintWords Go.Proofs.YtibkopejnhihkaaW.PrintLast
theorem FnExactCellCount : laws_FnExactCellCount.Pure := by
  intro x0 x1 hg _
  exact (law_ev x0.f0 x1 hg.1 (fun x hx => (hg.2 x hx).1)).get
end Go.Proofs.Ytibkopejnhihkaa.Pure
