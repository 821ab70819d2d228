/- A part of the walk: what functions of the program do, over an abstract heap. -/
import Derived.Test.YtmoknllbpjpkmaaX3
namespace Go.Proofs.Ytmoknllbpjpkmaa.Zed
open Go TP
set_option linter.unusedVariables false
set_option linter.unusedSimpArgs false
set_option maxRecDepth 20000
namespace tfX4
theorem tf : True := trivial
end tfX4
open tfX4

abbrev mxV (R C : Int) (L : List Int) : Value := .agg #[I R, I C, zI L]
theorem Cl.mx (R C : Int) (L : List Int) : Cl (mxV R C L) := Cl.agg (l := [_, _, _]) (Cl.cons (Cl.int _ _) (Cl.cons (Cl.int _ _) (Cl.cons (Cl.zI _) Cl.nil)))
theorem mx_shape {lo hi : Nat} {H : Heap} {u : Value} {R C : Int} {L : List Int} (h : OwnB lo hi H [u] [mxV R C L]) : ∃ v, u = .agg #[I R, I C, v] ∧ OwnB lo hi H [v] [zI L] ∧ v.oneCell' = true := by
  obtain ⟨l, rfl, h1⟩ := OwnB.agg_inv (l' := [I R, I C, zI L]) h
  obtain ⟨l2, rfl, h2⟩ := OwnB.flat_inv (r := I R) rfl h1
  obtain ⟨l3, rfl, h3⟩ := OwnB.flat_inv (r := I C) rfl h2
  obtain ⟨v, l4, rfl, h4, h5⟩ := h3.cons_inv
  obtain rfl := h5.nil_inv
  exact ⟨v, rfl, h4, h4.one⟩
theorem mx_mk {lo hi : Nat} {H : Heap} {v : Value} {R C : Int} {L : List Int} (h : OwnB lo hi H [v] [zI L]) : OwnB lo hi H [.agg #[I R, I C, v]] [mxV R C L] := OwnB.ag (l := [I R, I C, v]) (l' := [I R, I C, zI L]) (.fcons rfl (.fcons rfl h))
/-- A matrix and a code. -/
abbrev mtV (R C : Int) (L : List Int) (c : Int) : Value := .tuple #[mxV R C L, I c]
def amV (T : List (List (Int × Int))) : Value := if codeN T = 0 then mtV (amR T) (amC T) (amL T) 0 else mtV 0 0 [] (codeN T)
theorem appN {H : Heap} {m : Nat} {l : List Int} {K : Value → Heap → Prop} (hm : l.length = m) (hb : m ≤ 1000000) (h0 : m ≠ 0) (h : K (.slice (some ⟨H.size, 0, none⟩) m 0) (H.push (.cells (ints l) 1 false))) :
    appendK Try.prog 25 25 (.slice none 0 0) (FZ 1 m (ints l)) H K := by
  have hel : el Try.prog 25 = some (none, 1) := rfl
  have hu : Try.prog.underlying 25 = some (.slice 2) := rfl
  have hc : cz Try.prog 2 = some 1 := rfl
  have hbz : bz Try.prog 2 = some 8 := rfl
  have hz : zr Try.prog 2 = some (.int .i64 0) := rfl
  unfold appendK appsK
  simp only [hu, hc, hbz, hz, hel]
  refine ⟨by omega, by omega, rfl, rfl, rfl, by rw [ints_len]; omega, ?_, by omega, fun q => absurd q h0, fun _ => h⟩
  intro v hv
  obtain ⟨y, _, rfl⟩ := List.mem_map.1 hv
  rfl
def flatTo (R : List (List Int)) (i : Nat) : List Int := (R.take i).flatten
theorem flatTo_succ (R : List (List Int)) (i : Nat) (h : i < R.length) : flatTo R (i + 1) = flatTo R i ++ R.getD i [] := by
  unfold flatTo
  rw [List.take_succ_eq_append_getElem h, List.flatten_append]
  simp [h]
theorem flatTo_len {R : List (List Int)} {C : Nat} (h : ∀ r ∈ R, r.length = C) : ∀ i, i ≤ R.length → (flatTo R i).length = i * C := fun i hi => by
  unfold flatTo
  rw [flat_len (fun r hr => h r (List.mem_of_mem_take hr)), List.length_take, Nat.min_eq_left hi]
theorem spR_rows (T : List (List (Int × Int))) : ∀ r ∈ spR T, r.length = 3 * T.length + 1 := by
  intro r hr
  unfold spR at hr
  rcases List.mem_append.1 hr with hr | hr
  · obtain ⟨a, _, rfl⟩ := List.mem_map.1 hr
    unfold rA; rw [List.length_set, rowA_len]
  · obtain ⟨a, _, rfl⟩ := List.mem_map.1 hr
    unfold rE; rw [List.length_set, rowI_len]
theorem spR_len {T : List (List (Int × Int))} (hT : IsTri T) : (spR T).length ≤ 100009 := by
  have h8 := hT.1
  have hN := classN_bd (edgeL_bd T h8)
  have hll := inL_len (sE T) (nE T)
  have hN2 : nE T ≤ 100001 := by unfold nE; omega
  unfold spR
  rw [List.length_append, List.length_map, List.length_map, List.length_range]; omega
theorem codeN_six {T : List (List (Int × Int))} (h : codeN T = 0) : T.length ≤ 6 := by
  unfold codeN at h
  split at h
  · split at h
    · assumption
    · simp at h
  · simp at h
theorem nE_le {T : List (List (Int × Int))} (hF : Fine T) : nE T ≤ 6 * T.length := by
  obtain ⟨_, e2⟩ := edgeL_is hF
  obtain ⟨_, ⟨_, l2⟩, _⟩ := marks_fine hF
  have := rank_le (markE T) (markE T).length
  unfold nE; rw [e2, l2] at *; simpa using this
theorem spR_len2 {T : List (List (Int × Int))} (hT : IsTri T) : (spR T).length ≤ 7 * T.length := by
  have hll := inL_len (sE T) (nE T)
  have := nE_le hT.fine
  unfold spR
  rw [List.length_append, List.length_map, List.length_map, List.length_range]; omega
end Go.Proofs.Ytmoknllbpjpkmaa.Zed
