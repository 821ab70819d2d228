/- A part of the walk: what functions of the program do, over an abstract heap. -/
import Derived.Test.YtmoknllbpjpkmaaX24
namespace Go.Proofs.Ytmoknllbpjpkmaa.Zed
open Go TP
set_option linter.unusedVariables false
set_option linter.unusedSimpArgs false
set_option maxRecDepth 20000
namespace tfX25
theorem tf : (Try.prog.underlying 25 = some (.slice 2)) ∧ (el Try.prog 25 = some (none, 1)) ∧ (Try.prog.underlying 29 = some (.slice 102)) ∧ (el Try.prog 29 = some (none, 1)) ∧ (Try.prog.underlying 144 = some (.array 4 2)) ∧ (el Try.prog 144 = some (some 4, 1)) ∧ (tk Try.prog 2 = some none) ∧ (tk Try.prog 25 = some none) ∧ (tk Try.prog 29 = some none) ∧ (tk Try.prog 31 = some (some 1)) ∧ (tk Try.prog 102 = some none) ∧ (tk Try.prog 121 = some (some 3)) ∧ (cz Try.prog 2 = some 1) ∧ (bz Try.prog 2 = some 8) ∧ (cz Try.prog 102 = some 1) ∧ (bz Try.prog 102 = some 24) ∧ (zr Try.prog 2 = some (.int .i64 0)) ∧ (zr Try.prog 102 = some (.slice none 0 0)) ∧ (zr Try.prog 121 = some (.agg #[.int .i64 0, .int .i64 0, .slice none 0 0])) ∧ (fo Try.prog 31 0 = some (0, none)) ∧ (fo Try.prog 107 0 = some (0, none)) ∧ (fo Try.prog 121 0 = some (0, none)) ∧ (fo Try.prog 121 1 = some (1, none)) ∧ (fo Try.prog 121 2 = some (2, none)) ∧ (el Try.prog 121 = none) ∧ (placesOf Try.prog 121 = some #[(0, 1), (1, 1), (2, 1)]) := by
  refine ⟨?_, ?_, ?_, ?_, ?_, ?_, ?_, ?_, ?_, ?_, ?_, ?_, ?_, ?_, ?_, ?_, ?_, ?_, ?_, ?_, ?_, ?_, ?_, ?_, ?_, ?_⟩ <;> kernel_rfl
end tfX25
open tfX25

def mFs (n a : Nat) (row : List (Int × Int)) : Nat → List (List Int)
  | 0 => []
  | f + 1 => mFs n a row f ++ (if (row.getD f (0, 0)).1 < 0 then [] else mF n a f (row.getD f (0, 0)).1 (row.getD f (0, 0)).2)
def mTs (n : Nat) (T : List (List (Int × Int))) : Nat → List (List Int)
  | 0 => []
  | a + 1 => mTs n T a ++ mFs n a (T.getD a []) 4
theorem mF_ok (n a f : Nat) (hf : f < 4) (t p : Int) : (mF n a f t p).length ≤ 3 ∧ ∀ r ∈ mF n a f t p, r.length = 7 * n := by
  unfold mF
  split
  · exact ⟨by simp, fun r hr => by cases hr⟩
  · refine ⟨by rw [List.length_map, (others1_bd f hf).1]; exact Nat.le_refl _, fun r hr => ?_⟩
    obtain ⟨y, _, rfl⟩ := List.mem_map.1 hr
    exact mRow_len ..
theorem mFs_ok (n a : Nat) (row : List (Int × Int)) : ∀ f, f ≤ 4 → (mFs n a row f).length ≤ 3 * f ∧ ∀ r ∈ mFs n a row f, r.length = 7 * n
  | 0, _ => ⟨by simp [mFs], fun r hr => by cases hr⟩
  | f + 1, h => by
    obtain ⟨i1, i2⟩ := mFs_ok n a row f (by omega)
    have hm := mF_ok n a f (by omega) (row.getD f (0, 0)).1 (row.getD f (0, 0)).2
    unfold mFs
    split
    · rw [List.append_nil]; exact ⟨by omega, i2⟩
    · refine ⟨by rw [List.length_append]; omega, fun r hr => ?_⟩
      rcases List.mem_append.1 hr with hr | hr
      · exact i2 r hr
      · exact hm.2 r hr
theorem mTs_ok (n : Nat) (T : List (List (Int × Int))) : ∀ a, (mTs n T a).length ≤ 12 * a ∧ ∀ r ∈ mTs n T a, r.length = 7 * n
  | 0 => ⟨by simp [mTs], fun r hr => by cases hr⟩
  | a + 1 => by
    obtain ⟨i1, i2⟩ := mTs_ok n T a
    obtain ⟨j1, j2⟩ := mFs_ok n a (T.getD a []) 4 (Nat.le_refl _)
    unfold mTs
    refine ⟨by rw [List.length_append]; omega, fun r hr => ?_⟩
    rcases List.mem_append.1 hr with hr | hr
    · exact i2 r hr
    · exact j2 r hr
theorem MSt.z {H0 H : Heap} {bm n z : Nat} {A : List (List Int)} (h : MSt H0 H bm n A z) : MSt H0 H bm n A H.size := by
  obtain ⟨h1, h2, h3, h4, h5⟩ := h
  refine ⟨h1, h2, h3, by omega, ?_⟩
  rcases h5 with h5 | ⟨g, r1, r2, r3, r4, r5⟩
  · exact .inl h5
  · exact .inr ⟨g, r1, r2, by omega, r4, r5⟩
/-- The rows of the conditions on normal vectors. -/
def mmR (T : List (List (Int × Int))) : List (List Int) := mTs T.length T T.length
theorem mmR_rows (T : List (List (Int × Int))) : ∀ r ∈ mmR T, r.length = 7 * T.length := (mTs_ok _ _ _).2
theorem mmR_len (T : List (List (Int × Int))) : (mmR T).length ≤ 12 * T.length := (mTs_ok _ _ _).1
set_option maxHeartbeats 4000000 in
theorem matchingMatrix_z {T : List (List (Int × Int))} (hF : Fine T) : ZCalls Try.prog 120 [zT T] (mxV (mmR T).length (7 * T.length) (mmR T).flatten) := by
  have h8 := hF.1
  have hgl := fun (H0 H : Heap) (bm : Nat) => glued_g hF 165 (.pointer (some ⟨bm, 0, none⟩)) (fun a f H' => MSt H0 H' bm T.length (mTs T.length T a ++ mFs T.length a (T.getD a []) f) H'.size)
    (fun a f H H' h k => (MSt.ext h k).z)
    (fun a f H _ hf h0 h => by
      have e : mFs T.length a (T.getD a []) (f + 1) = mFs T.length a (T.getD a []) f := by
        show mFs T.length a (T.getD a []) f ++ _ = _
        rw [if_pos h0, List.append_nil]
      rw [e]; exact h)
    (fun a H _ h => by
      have e : mTs T.length T (a + 1) ++ mFs T.length (a + 1) (T.getD (a + 1) []) 0 = mTs T.length T a ++ mFs T.length a (T.getD a []) 4 := by
        show mTs T.length T a ++ mFs T.length a (T.getD a []) 4 ++ [] = _
        rw [List.append_nil]
      rw [e]; exact h)
    (fun H a f t p he ha hf ht0 ht hp0 hp h x => by
      have e : mTs T.length T a ++ mFs T.length a (T.getD a []) (f + 1) = mTs T.length T a ++ mFs T.length a (T.getD a []) f ++ mF T.length a f t p := by
        show mTs T.length T a ++ (mFs T.length a (T.getD a []) f ++ _) = _
        rw [he, if_neg (by simp only; omega), List.append_assoc]
      have k1 := mTs_ok T.length T a
      have k2 := mFs_ok T.length a (T.getD a []) f (by omega)
      have k3 : (mTs T.length T a ++ mFs T.length a (T.getD a []) f).length ≤ 108 := by rw [List.length_append]; omega
      have k4 : (mTs T.length T a ++ mFs T.length a (T.getD a []) f).flatten.length ≤ 108 * 56 := by
        rw [flat_len (C := 7 * T.length) (fun r hr => by
          rcases List.mem_append.1 hr with hr | hr
          · exact k1.2 r hr
          · exact k2.2 r hr)]
        exact Nat.mul_le_mul k3 (by omega)
      refine (mmVisit_c h8 h (by omega) (by omega) x a f t p ha ht0 ht hf hp0 hp).mono ?_
      rintro u H' ⟨rfl, q1, q2⟩
      refine ⟨rfl, ?_, q2⟩
      rw [e]
      exact q1.z) (H := H)
  have hfl := flat_len (mmR_rows T)
  have e0 : mTs T.length T T.length ++ mFs T.length T.length (T.getD T.length []) 0 = mmR T := by show _ ++ [] = _; rw [List.append_nil]; rfl
  have e1 : mTs T.length T 0 ++ mFs T.length 0 (T.getD 0 []) 0 = [] := rfl
  simp only [e0, e1] at hgl
  generalize mmR T = M at *
  refine ZCalls.body Try.func120 rfl Try.ntmps120 (rs := [.cell 2 121]) rfl (by simp) rfl fun H Q hQ A hA => ?_
  have a0 := hA 0 _ _ rfl
  clear hA
  repeat' first | refine rnY ?_ | (first | refine ZCalls.to (size_z _ _ _) ?_ | refine ZCalls.tf (size_z _ _ _) ?_) | with_reducible refine And.intro (fun hc => ?_) (fun hc => ?_) | fail
  refine (hgl (H.push (.cells [I 0, I 0, .slice none 0 0] 1 false)) _ (H.size + 1) ⟨(Ext.refl _).push _, by simp only [nx]; omega, by simp only [nx]; omega, by simp only [nx]; omega, .inl ⟨rfl, get_push_eq (by simp only [nx])⟩⟩).mono ?_
  rintro u H1 ⟨rfl, hx, hb0, hb1, hb2, hg⟩
  clear hgl e0 e1
  have hxg := hx.get; have hxs := hx.size; (try simp only [nx] at hxs)
  rcases hg with ⟨hM0, hg⟩ | ⟨g, hi0, hg1, hg2, hg3, hg4, hg5⟩
  · subst hM0
    repeat' first | refine rnY ?_ | with_reducible refine And.intro (fun hc => ?_) (fun hc => ?_) | fail
    exact hQ.out _ _ ((mx_mk (OwnB.nilr 1) : OwnB H.size H.size _ [_] [mxV 0 (7 * T.length) []]).fin) (by exact exY)
  · repeat' first | refine rnY ?_ | with_reducible refine And.intro (fun hc => ?_) (fun hc => ?_) | fail
    have hO : OwnB H.size H1.size (H1.set H.size (.cells [I M.length, I (7 * T.length), .slice (some ⟨g, 0, none⟩) (M.length * (7 * T.length)) 0] 1 false)) [.agg #[I M.length, I (7 * T.length), .slice (some ⟨g, 0, none⟩) (M.length * (7 * T.length)) 0]] [mxV M.length (7 * T.length) M.flatten] :=
      mx_mk (by unfold Zed.zI; rw [hfl]; exact OwnB.ints (by omega) hg3 hfl ((get_set_ne (by omega)).trans hg5))
    exact hQ.out _ _ (hO.fin) (by exact exY)
end Go.Proofs.Ytmoknllbpjpkmaa.Zed
