/- A part of the walk: what functions of the program do, over an abstract heap. -/
import Derived.Test.YtibkopejnhihkaaX8
import Derived.Test.YtibkopejnhihkaaW24
namespace Go.Proofs.Ytibkopejnhihkaa.Zed
open Go TP
set_option linter.unusedVariables false
set_option linter.unusedSimpArgs false
set_option maxRecDepth 20000
namespace tfX9
theorem tf : (Try.prog.underlying 36 = some (.slice 2)) ∧ (el Try.prog 36 = some (none, 1)) ∧ (Try.prog.underlying 44 = some (.slice 36)) ∧ (el Try.prog 44 = some (none, 1)) ∧ (Try.prog.underlying 83 = some (.slice 4)) ∧ (el Try.prog 83 = some (none, 1)) ∧ (tk Try.prog 2 = some none) ∧ (tk Try.prog 4 = some none) ∧ (tk Try.prog 24 = some (some 1)) ∧ (tk Try.prog 29 = some (some 1)) ∧ (tk Try.prog 36 = some none) ∧ (tk Try.prog 44 = some none) ∧ (tk Try.prog 50 = some (some 3)) ∧ (cz Try.prog 2 = some 1) ∧ (bz Try.prog 2 = some 8) ∧ (cz Try.prog 4 = some 1) ∧ (bz Try.prog 4 = some 1) ∧ (cz Try.prog 36 = some 1) ∧ (bz Try.prog 36 = some 24) ∧ (zr Try.prog 2 = some (.int .i64 0)) ∧ (zr Try.prog 4 = some (.bool false)) ∧ (zr Try.prog 29 = some (.agg #[.slice none 0 0])) ∧ (zr Try.prog 36 = some (.slice none 0 0)) ∧ (zr Try.prog 50 = some (.agg #[.slice none 0 0, .slice none 0 0, .slice none 0 0])) ∧ (fo Try.prog 50 0 = some (0, none)) ∧ (fo Try.prog 50 1 = some (1, none)) ∧ (fo Try.prog 50 2 = some (2, none)) := by
  refine ⟨?_, ?_, ?_, ?_, ?_, ?_, ?_, ?_, ?_, ?_, ?_, ?_, ?_, ?_, ?_, ?_, ?_, ?_, ?_, ?_, ?_, ?_, ?_, ?_, ?_, ?_, ?_⟩ <;> kernel_rfl
end tfX9
open tfX9

theorem specBC_z {T : List (List (Int × Int))} (hl : T.length ≤ 1048576) : ZCalls Try.prog 44 [zT T] (bcV T) := by
  unfold bcV
  by_cases h : IsTri T
  · rw [if_pos h]
    exact specBoundary_z h
  · rw [if_neg h]
    have ht := specIsTri_z hl
    rw [decide_eq_false h] at ht
    refine ZCalls.body Try.func44 rfl Try.ntmps44 (rs := [.tmp 2, .tmp 3, .tmp 4]) rfl (by simp) rfl fun H Q hQ A hA => ?_
    have a0 := hA 0 _ _ rfl
    clear hA
    repeat' first | refine rnY ?_ | (first | refine ZCalls.to (ht) ?_ | refine ZCalls.tf (ht) ?_) | with_reducible refine And.intro (fun hc => ?_) (fun hc => ?_) | fail
    exact hQ.out _ _ ((OwnB.tup (lo := H.size) (hi := H.size) (l := [.slice none 0 0, .slice none 0 0, .slice none 0 0]) (l' := [zI [], zI [], zI []]) (.three (OwnB.nilr 1) (OwnB.nilr 1) (OwnB.nilr 1) (.inl (Nat.le_refl _)) (.inl (Nat.le_refl _)) (.inl (Nat.le_refl _)) (Nat.le_refl _) (Nat.le_refl _) (Nat.le_refl _) (Nat.le_refl _) (Nat.le_refl _) (Nat.le_refl _))).fin) (by exact exY)
/-- A value told as r, its blocks in S. -/
def OwnS (S : Nat → Prop) (H : Heap) (v r : Value) : Prop := ∃ ks, OwnL false 0 H [v] [r] ks ∧ ∀ k ∈ ks, S k.1
theorem OwnS.keep {S : Nat → Prop} {H H' : Heap} {v r : Value} (h : OwnS S H v r) (hk : ∀ b, S b → H'.get b = H.get b) : OwnS S H' v r := by
  obtain ⟨ks, a, b⟩ := h
  exact ⟨ks, a.keep (.inl rfl) (Nat.le_refl _) fun k hk' => by rw [hk _ (b k hk')]; exact (a.get k hk').2, b⟩
theorem ArgL.ownS {S : Nat → Prop} {H : Heap} {v r : Value} {l l' : List Value} (h : OwnS S H v r) (t : ArgL H l l') : ArgL H (v :: l) (r :: l') := let ⟨ks, a, _⟩ := h; .own a t
structure Own3 (lo hi : Nat) (S1 S2 S3 : Nat → Prop) (H : Heap) (v1 v2 v3 : Value) (l1 l2 l3 : List Int) : Prop where
  h1 : OwnS S1 H v1 (zI l1)
  h2 : OwnS S2 H v2 (zI l2)
  h3 : OwnS S3 H v3 (zI l3)
  r : ∀ b, S1 b ∨ S2 b ∨ S3 b → lo ≤ b ∧ b < hi
  d12 : ∀ b, S1 b → ¬ S2 b
  d13 : ∀ b, S1 b → ¬ S3 b
  d23 : ∀ b, S2 b → ¬ S3 b
section
variable {lo hi lo' hi' : Nat} {S1 S2 S3 : Nat → Prop} {H H' : Heap} {v1 v2 v3 u : Value} {l1 l2 l3 : List Int} {k : Int}
theorem Own3.keep (h : Own3 lo hi S1 S2 S3 H v1 v2 v3 l1 l2 l3) (hk : ∀ b, lo ≤ b → b < hi → H'.get b = H.get b) : Own3 lo hi S1 S2 S3 H' v1 v2 v3 l1 l2 l3 :=
  ⟨h.h1.keep fun b hb => hk b (h.r b (.inl hb)).1 (h.r b (.inl hb)).2, h.h2.keep fun b hb => hk b (h.r b (.inr (.inl hb))).1 (h.r b (.inr (.inl hb))).2, h.h3.keep fun b hb => hk b (h.r b (.inr (.inr hb))).1 (h.r b (.inr (.inr hb))).2, h.r, h.d12, h.d13, h.d23⟩
theorem Own3.ext (h : Own3 lo hi S1 S2 S3 H v1 v2 v3 l1 l2 l3) (hs : hi ≤ H.size) (k : Ext H H') : Own3 lo hi S1 S2 S3 H' v1 v2 v3 l1 l2 l3 := h.keep fun b _ hb => k.get b (by omega)
theorem Own3.extR (h : Own3 lo hi S1 S2 S3 H v1 v2 v3 l1 l2 l3) (hs : hi ≤ H.size) (k : ExtR lo' hi' H H') (hd : hi ≤ lo' ∨ hi' ≤ lo) : Own3 lo hi S1 S2 S3 H' v1 v2 v3 l1 l2 l3 := h.keep fun b h1 hb => k.get b (by omega) (by omega)
theorem own3_shape (h : OwnB lo hi H [u] [.tuple #[zI l1, zI l2, zI l3]]) : ∃ v1 v2 v3 S1 S2 S3, u = .tuple #[v1, v2, v3] ∧ Own3 lo hi S1 S2 S3 H v1 v2 v3 l1 l2 l3 ∧ v1.oneCell' = true ∧ v2.oneCell' = true ∧ v3.oneCell' = true := by
  obtain ⟨ks, hh, hb⟩ := h.in
  obtain ⟨l, rfl, hh2⟩ := OwnL.tup_inv (l' := [zI l1, zI l2, zI l3]) hh
  obtain ⟨v1, w1, k1, q1, rfl, a1, b1, d1, rfl⟩ := hh2.cons_inv
  obtain ⟨v2, w2, k2, q2, rfl, a2, b2, d2, rfl⟩ := b1.cons_inv
  obtain ⟨v3, w3, k3, q3, rfl, a3, b3, d3, rfl⟩ := b2.cons_inv
  obtain ⟨rfl, rfl⟩ := b3.nil_inv
  have z1 := a1.keep (H' := H) (lo' := 0) (.inl rfl) (Nat.zero_le _) fun k hk => (a1.get k hk).2
  have z2 := a2.keep (H' := H) (lo' := 0) (.inl rfl) (Nat.zero_le _) fun k hk => (a2.get k hk).2
  have z3 := a3.keep (H' := H) (lo' := 0) (.inl rfl) (Nat.zero_le _) fun k hk => (a3.get k hk).2
  refine ⟨v1, v2, v3, fun b => ∃ x ∈ k1, x.1 = b, fun b => ∃ x ∈ k2, x.1 = b, fun b => ∃ x ∈ k3, x.1 = b, rfl, ⟨⟨k1, z1, fun k hk => ⟨k, hk, rfl⟩⟩, ⟨k2, z2, fun k hk => ⟨k, hk, rfl⟩⟩, ⟨k3, z3, fun k hk => ⟨k, hk, rfl⟩⟩, ?_, ?_, ?_, ?_⟩, ?_, ?_, ?_⟩
  · rintro b (⟨x, hx, rfl⟩ | ⟨x, hx, rfl⟩ | ⟨x, hx, rfl⟩)
    · exact hb x (List.mem_append_left _ hx)
    · exact hb x (List.mem_append_right _ (List.mem_append_left _ hx))
    · exact hb x (List.mem_append_right _ (List.mem_append_right _ (List.mem_append_left _ hx)))
  · rintro b ⟨x, hx, rfl⟩ ⟨y, hy, e⟩
    exact d1 x hx y (List.mem_append_left _ hy) e.symm
  · rintro b ⟨x, hx, rfl⟩ ⟨y, hy, e⟩
    exact d1 x hx y (List.mem_append_right _ (List.mem_append_left _ hy)) e.symm
  · rintro b ⟨x, hx, rfl⟩ ⟨y, hy, e⟩
    exact d2 x hx y (List.mem_append_left _ hy) e.symm
  · exact OwnB.one (lo := lo) (hi := hi) (H := H) ⟨k1, a1, fun k hk => (hb k (List.mem_append_left _ hk)).2⟩
  · exact OwnB.one (lo := lo) (hi := hi) (H := H) ⟨k2, a2, fun k hk => (hb k (List.mem_append_right _ (List.mem_append_left _ hk))).2⟩
  · exact OwnB.one (lo := lo) (hi := hi) (H := H) ⟨k3, a3, fun k hk => (hb k (List.mem_append_right _ (List.mem_append_right _ (List.mem_append_left _ hk)))).2⟩
theorem markS {S : Nat → Prop} {v : Value} {l : List Int} (hO : OwnS S H v (zI l)) (hn : l.length ≤ 4000000000) (h0 : 0 ≤ k) (hk : k ≤ 4611686018427387904) :
    ACalls Try.prog 26 [v, I k] H fun u H' => u = I (k + l.length) ∧ H'.size = H.size ∧ (∀ b, b < H.size → ¬ S b → H'.get b = H.get b) ∧ OwnS S H' v (zI (mkI k l.length)) := by
  obtain ⟨ks, a, b⟩ := hO
  refine (markInt64S_m a hn h0 hk).mono ?_
  rintro u H' ⟨rfl, q1, q2, ks', q3, q4⟩
  refine ⟨rfl, q2, fun b' hb hn => q1.get b' hb fun k hk e => hn (e ▸ b k hk), ks', q3, fun k hk => ?_⟩
  obtain ⟨k', r1, r2⟩ := q4.mem k hk
  rw [← r2]; exact b k' r1
theorem Own3.mark1 (h : Own3 lo hi S1 S2 S3 H v1 v2 v3 l1 l2 l3) (hs : hi ≤ H.size) (hn : l1.length ≤ 4000000000) (h0 : 0 ≤ k) (hk : k ≤ 4611686018427387904) :
    ACalls Try.prog 26 [v1, I k] H fun u H' => u = I (k + l1.length) ∧ ExtR lo hi H H' ∧ Own3 lo hi S1 S2 S3 H' v1 v2 v3 (mkI k l1.length) l2 l3 := by
  refine (markS h.h1 hn h0 hk).mono ?_
  rintro u H' ⟨rfl, q1, q2, q3⟩
  have lt : ∀ b, S1 b ∨ S2 b ∨ S3 b → b < H.size := fun b hb => by have := (h.r b hb).2; omega
  exact ⟨rfl, ⟨by omega, fun b hb hn => q2 b hb fun hS => by have := h.r b (.inl hS); omega⟩, q3, h.h2.keep fun b hb => q2 b (lt b (.inr (.inl hb))) fun e => h.d12 b e hb, h.h3.keep fun b hb => q2 b (lt b (.inr (.inr hb))) fun e => h.d13 b e hb, h.r, h.d12, h.d13, h.d23⟩
theorem Own3.mark2 (h : Own3 lo hi S1 S2 S3 H v1 v2 v3 l1 l2 l3) (hs : hi ≤ H.size) (hn : l2.length ≤ 4000000000) (h0 : 0 ≤ k) (hk : k ≤ 4611686018427387904) :
    ACalls Try.prog 26 [v2, I k] H fun u H' => u = I (k + l2.length) ∧ ExtR lo hi H H' ∧ Own3 lo hi S1 S2 S3 H' v1 v2 v3 l1 (mkI k l2.length) l3 := by
  refine (markS h.h2 hn h0 hk).mono ?_
  rintro u H' ⟨rfl, q1, q2, q3⟩
  have lt : ∀ b, S1 b ∨ S2 b ∨ S3 b → b < H.size := fun b hb => by have := (h.r b hb).2; omega
  exact ⟨rfl, ⟨by omega, fun b hb hn => q2 b hb fun hS => by have := h.r b (.inr (.inl hS)); omega⟩, h.h1.keep fun b hb => q2 b (lt b (.inl hb)) fun e => h.d12 b hb e, q3, h.h3.keep fun b hb => q2 b (lt b (.inr (.inr hb))) fun e => h.d23 b e hb, h.r, h.d12, h.d13, h.d23⟩
theorem Own3.mark3 (h : Own3 lo hi S1 S2 S3 H v1 v2 v3 l1 l2 l3) (hs : hi ≤ H.size) (hn : l3.length ≤ 4000000000) (h0 : 0 ≤ k) (hk : k ≤ 4611686018427387904) :
    ACalls Try.prog 26 [v3, I k] H fun u H' => u = I (k + l3.length) ∧ ExtR lo hi H H' ∧ Own3 lo hi S1 S2 S3 H' v1 v2 v3 l1 l2 (mkI k l3.length) := by
  refine (markS h.h3 hn h0 hk).mono ?_
  rintro u H' ⟨rfl, q1, q2, q3⟩
  have lt : ∀ b, S1 b ∨ S2 b ∨ S3 b → b < H.size := fun b hb => by have := (h.r b hb).2; omega
  exact ⟨rfl, ⟨by omega, fun b hb hn => q2 b hb fun hS => by have := h.r b (.inr (.inr hS)); omega⟩, h.h1.keep fun b hb => q2 b (lt b (.inl hb)) fun e => h.d13 b hb e, h.h2.keep fun b hb => q2 b (lt b (.inr (.inl hb))) fun e => h.d23 b hb e, q3, h.r, h.d12, h.d13, h.d23⟩
end
theorem tri_shape2 {lo hi : Nat} {H : Heap} {u : Value} {T : List (List (Int × Int))} (h : OwnB lo hi H [u] [zT T]) : ∃ v, u = .agg #[v] ∧ v.oneCell' = true := by
  obtain ⟨l, rfl, h1⟩ := OwnB.agg_inv (l' := [zL zP T]) h
  obtain ⟨v, l4, rfl, h4, h5⟩ := h1.cons_inv
  obtain rfl := h5.nil_inv
  exact ⟨v, rfl, h4.one⟩
theorem bcV_ok (T : List (List (Int × Int))) (hl : T.length ≤ 1048576) : ∃ l1 l2 l3, bcV T = .tuple #[zI l1, zI l2, zI l3] ∧ l1.length ≤ 200000 ∧ l2.length ≤ 200000 ∧ l3.length ≤ 200000 := by
  unfold bcV
  by_cases h : IsTri T
  · rw [if_pos h]
    have h8 := h.1
    have hnv := classN_bd (vertL_bd T h8)
    have hne := classN_bd (edgeL_bd T h8)
    have hnf := classN_bd (faceL_bd T h8)
    refine ⟨_, _, _, rfl, Nat.le_trans (listTo_len _ _) ?_, Nat.le_trans (listTo_len _ _) ?_, Nat.le_trans (listTo_len _ _) ?_⟩
    · unfold nV; omega
    · unfold nE; omega
    · unfold nF; omega
  · rw [if_neg h]
    exact ⟨[], [], [], rfl, by simp, by simp, by simp⟩
set_option maxHeartbeats 8000000 in
theorem lawBoundaryClasses_z {T : List (List (Int × Int))} (hS : Short T 9223372036854775807) : ZCalls Try.prog 11 [zT T] (B true) := by
  obtain ⟨s, h1, h2, h3, h4⟩ := szTriangulation_z hS
  by_cases hs : s < 0
  · refine ZCalls.body Try.func11 rfl Try.ntmps11 (rs := [.tmp 2]) rfl (by simp) rfl fun H Q hQ A hA => ?_
    have a0 := hA 0 _ _ rfl
    clear hA
    repeat' first | refine rnY ?_ | (first | refine ZCalls.to (h4) ?_ | refine ZCalls.tf (h4) ?_) | with_reducible refine And.intro (fun hc => ?_) (fun hc => ?_) | fail
    exact hQ.out _ _ (fv) (by exact exY)
  · have hS' := h1 (by omega)
    have hsp := specBC_z (T := T) hS'.1
    have him := implBC_o (T := T) hS'.1
    obtain ⟨l1, l2, l3, hV, n1, n2, n3⟩ := bcV_ok T hS'.1
    rw [hV] at hsp him
    have him2 := him.toZ (Cl.cons (Cl.zT T) Cl.nil)
    have hto1 := toTriangulation_z hS'
    have hto3 := toTriangulation_z hS'
    have hton := fun H => (toTriangulation_o hS').lend (H := H) (.cl (Cl.zT T) .nil)
    have heq1 := eqInt64S_z l1 (by omega)
    have heq2 := eqInt64S_z l2 (by omega)
    have heq3 := eqInt64S_z l3 (by omega)
    have heT := eqTriangulation_z hS'
    have hh1 := heldInt64S_z l1.length 1 (by omega) (by omega) (by omega)
    have hh2 := heldInt64S_z l2.length (1 + l1.length) (by omega) (by omega) (by omega)
    have hh3 := heldInt64S_z l3.length (1 + l1.length + l2.length) (by omega) (by omega) (by omega)
    have hmN : ¬ (1 + (markN T T.length : Int) < 0) := by omega
    have hm1 : ¬ (1 + (l1.length : Int) < 0) := by omega
    have hm2 : ¬ (1 + (l1.length : Int) + l2.length < 0) := by omega
    have hm3 : ¬ (1 + (l1.length : Int) + l2.length + l3.length < 0) := by omega
    clear h1 hV
    refine ZCalls.body Try.func11 rfl Try.ntmps11 (rs := [.tmp 2]) rfl (by simp) rfl fun H Q hQ A hA => ?_
    have a0 := hA 0 _ _ rfl
    clear hA
    repeat' first | refine rnY ?_ | (first | refine ZCalls.to (h4) ?_ | refine ZCalls.tf (h4) ?_) | (refine ZCalls.to hto1 ?_; clear hto1) | (first | refine ZCalls.to (hsp) ?_ | refine ZCalls.tf (hsp) ?_) | (refine (hton _).mono ?_; rintro x0 H0 ⟨hx0, he0⟩; clear hton; obtain ⟨x, rfl, hxo⟩ := tri_shape2 hx0; have he0g := he0.get; have he0s := he0.size; (try simp only [nx] at he0s)) | (refine (him.lend (.ownB (hx0.ext (Nat.le_refl _) (by exact exY)) .nil)).mono ?_; rintro u H1 ⟨hg0, he1⟩; clear him; obtain ⟨v1, v2, v3, S1, S2, S3, rfl, hO, ho1, ho2, ho3⟩ := own3_shape hg0; clear hg0; have he1g := he1.get; have he1s := he1.size; (try simp only [nx] at he1s)) | (refine (heq1.lend rfl (.ownS (hO.ext (Nat.le_refl _) (by exact exY)).h1 (.cl (Cl.zI l1) .nil))).mono ?_; rintro u Ha ⟨rfl, hea⟩; have heag := hea.get; have heas := hea.size; (try simp only [nx] at heas)) | (refine (heq2.lend rfl (.ownS (hO.ext (Nat.le_refl _) (by exact exY)).h2 (.cl (Cl.zI l2) .nil))).mono ?_; rintro u Hb ⟨rfl, heb⟩; have hebg := heb.get; have hebs := heb.size; (try simp only [nx] at hebs)) | (refine (heq3.lend rfl (.ownS (hO.ext (Nat.le_refl _) (by exact exY)).h3 (.cl (Cl.zI l3) .nil))).mono ?_; rintro u Hc ⟨rfl, hec⟩; have hecg := hec.get; have hecs := hec.size; (try simp only [nx] at hecs)) | with_reducible refine And.intro (fun hc => ?_) (fun hc => ?_) | fail
    refine AWp.zreg [(0, none), (1, none), (2, none), (3, some [0, 1]), (4, none)] mixed (by kernel_rfl) ?_
    repeat' first | refine rzY ?_ | (first | refine ZCalls.to (hto3) ?_ | refine ZCalls.tf (hto3) ?_) | (refine (heT.lend rfl (.ownB (hx0.ext (Nat.le_refl _) (by exact exY)) (.cl (Cl.zT T) .nil))).mono ?_; rintro u H3 ⟨rfl, he3⟩; have he3g := he3.get; have he3s := he3.size; (try simp only [nx] at he3s); refine hgY ?_) | fail
    repeat' first | refine rnY ?_ | (first | refine ZCalls.to (hto3) ?_ | refine ZCalls.tf (hto3) ?_) | (first | refine ZCalls.to (him2) ?_ | refine ZCalls.tf (him2) ?_) | (first | refine ZCalls.to (heq1) ?_ | refine ZCalls.tf (heq1) ?_) | (first | refine ZCalls.to (heq2) ?_ | refine ZCalls.tf (heq2) ?_) | (first | refine ZCalls.to (heq3) ?_ | refine ZCalls.tf (heq3) ?_) | (refine (markTriangulation_m (hx0.ext (Nat.le_refl _) (by exact exY)) (by exact sdY) hS' (by omega) (by omega)).mono ?_; rintro u H4 ⟨rfl, hm4⟩; have hO := Own3.extR (hO.ext (Nat.le_refl _) (by exact exY)) (by exact sdY) hm4 (.inr (by exact sdY)); have hE4 := Ext.viaR (show Ext H _ from by exact exY) hm4 (by exact sdY); clear hx0; have hm4g := hm4.get; have hm4s := hm4.size; (try simp only [nx] at hm4s)) | (refine (heq1.lend rfl (.ownS (hO.ext (by exact sdY) (by exact exY)).h1 (.cl (Cl.zI l1) .nil))).mono ?_; rintro u Ha ⟨rfl, hea⟩; have heag := hea.get; have heas := hea.size; (try simp only [nx] at heas)) | (refine (heq2.lend rfl (.ownS (hO.ext (by exact sdY) (by exact exY)).h2 (.cl (Cl.zI l2) .nil))).mono ?_; rintro u Hb ⟨rfl, heb⟩; have hebg := heb.get; have hebs := heb.size; (try simp only [nx] at hebs)) | (refine (heq3.lend rfl (.ownS (hO.ext (by exact sdY) (by exact exY)).h3 (.cl (Cl.zI l3) .nil))).mono ?_; rintro u Hc ⟨rfl, hec⟩; have hecg := hec.get; have hecs := hec.size; (try simp only [nx] at hecs)) | (refine ((hO.ext (by exact sdY) (by exact exY)).mark1 (by exact sdY) (by omega) (by omega) (by omega)).mono ?_; rintro u H6 ⟨rfl, hm6, hO⟩; have hE6 := Ext.viaR (show Ext H _ from by exact exY) hm6 (by exact sdY); have hm6g := hm6.get; have hm6s := hm6.size; (try simp only [nx] at hm6s)) | (refine ((hO.ext (by exact sdY) (by exact exY)).mark2 (by exact sdY) (by omega) (by omega) (by omega)).mono ?_; rintro u H7 ⟨rfl, hm7, hO⟩; have hE7 := Ext.viaR (show Ext H _ from by exact exY) hm7 (by exact sdY); have hm7g := hm7.get; have hm7s := hm7.size; (try simp only [nx] at hm7s)) | (refine ((hO.ext (by exact sdY) (by exact exY)).mark3 (by exact sdY) (by omega) (by omega) (by omega)).mono ?_; rintro u H8 ⟨rfl, hm8, hO⟩; have hE8 := Ext.viaR (show Ext H _ from by exact exY) hm8 (by exact sdY); have hm8g := hm8.get; have hm8s := hm8.size; (try simp only [nx] at hm8s)) | (refine (hh1.lend rfl (.ownS (hO.ext (by exact sdY) (by exact exY)).h1 (.cl (Cl.int _ _) .nil))).mono ?_; rintro u H9 ⟨rfl, he9⟩; have he9g := he9.get; have he9s := he9.size; (try simp only [nx] at he9s)) | (refine (hh2.lend rfl (.ownS (hO.ext (by exact sdY) (by exact exY)).h2 (.cl (Cl.int _ _) .nil))).mono ?_; rintro u H9 ⟨rfl, he9⟩; have he9g := he9.get; have he9s := he9.size; (try simp only [nx] at he9s)) | (refine (hh3.lend rfl (.ownS (hO.ext (by exact sdY) (by exact exY)).h3 (.cl (Cl.int _ _) .nil))).mono ?_; rintro u H9 ⟨rfl, he9⟩; have he9g := he9.get; have he9s := he9.size; (try simp only [nx] at he9s)) | with_reducible refine And.intro (fun hc => ?_) (fun hc => ?_) | fail
    exact hQ.out _ _ (fv) (by exact exY)
end Go.Proofs.Ytibkopejnhihkaa.Zed
