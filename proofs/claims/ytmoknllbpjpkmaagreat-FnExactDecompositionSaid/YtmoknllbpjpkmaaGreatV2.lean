/- A part of the walk: what functions of the program do, over an abstract heap. -/
import Derived.Test.YtmoknllbpjpkmaaGreatV1
namespace Go.Proofs.YtmoknllbpjpkmaaGreat.Zed
open Go TP
set_option linter.unusedVariables false
set_option linter.unusedSimpArgs false
set_option maxRecDepth 20000
namespace tfV2
theorem tf : (Tryz.prog.underlying 25 = some (.slice 2)) ∧ (el Tryz.prog 25 = some (none, 1)) ∧ (Tryz.prog.underlying 37 = some (.slice 25)) ∧ (el Tryz.prog 37 = some (none, 1)) ∧ (tk Tryz.prog 2 = some none) ∧ (tk Tryz.prog 25 = some none) ∧ (tk Tryz.prog 31 = some (some 1)) ∧ (cz Tryz.prog 2 = some 1) ∧ (bz Tryz.prog 2 = some 8) ∧ (cz Tryz.prog 25 = some 1) ∧ (bz Tryz.prog 25 = some 24) ∧ (zr Tryz.prog 2 = some (.int .i64 0)) ∧ (zr Tryz.prog 25 = some (.slice none 0 0)) := by
  refine ⟨?_, ?_, ?_, ?_, ?_, ?_, ?_, ?_, ?_, ?_, ?_, ?_, ?_⟩ <;> kernel_rfl
end tfV2
open tfV2

/-- The list of rows of one's own, its blocks below hi. -/
def OutR (z hi : Nat) (H : Heap) (vo : Value) (R : List (List Int)) : Prop :=
  (R = [] ∧ vo = .slice none 0 0) ∨ ∃ b cs ks, vo = .slice (some ⟨b, 0, none⟩) R.length 0 ∧ z ≤ b ∧ b < hi ∧ H.get b = .cells cs 1 false ∧ cs.length = R.length ∧ OwnL false z H cs (R.map fun r => zI r) ks ∧ ∀ x ∈ ks, x.1 < hi ∧ x.1 ≠ b
theorem OutR.ext {z hi : Nat} {H H' : Heap} {vo : Value} {R : List (List Int)} (h : OutR z hi H vo R) (hh : hi ≤ H.size) (he : Ext H H') : OutR z hi H' vo R := by
  rcases h with h | ⟨b, cs, ks, h1, h2, h3, h5, h6, h7, h8⟩
  · exact .inl h
  · refine .inr ⟨b, cs, ks, h1, h2, h3, (he.get b (by omega)).trans h5, h6, h7.keep (.inl rfl) (Nat.le_refl _) fun k hk => ?_, h8⟩
    have := (h8 k hk).1
    rw [he.get k.1 (by omega)]; exact (h7.get k hk).2
theorem OutR.snoc0 {z m2 : Nat} {H : Heap} {wu : Value} {u : List Int} (hz : z ≤ m2) (hm : m2 ≤ H.size) (hu : OwnB m2 H.size H [wu] [zI u]) : OutR z (H.size + 1) (H.push (.cells [wu] 1 false)) (.slice (some ⟨H.size, 0, none⟩) 1 0) [u] := by
  obtain ⟨k2, q1, q2⟩ := hu.in
  refine .inr ⟨H.size, [wu], k2, rfl, by omega, by omega, get_push_eq rfl, rfl, q1.keep (.inl rfl) (by omega) fun k hk => ?_, fun x hx => ?_⟩
  · rw [get_push_lt (q2 k hk).2]; exact (q1.get k hk).2
  · have := q2 x hx; exact ⟨by omega, by omega⟩
theorem OutR.snoc {z m1 m2 b : Nat} {H : Heap} {wu : Value} {u : List Int} {R : List (List Int)} {cs : List Value} {ks : List (Nat × Blk)} (hm1 : m1 ≤ m2) (hm : m2 ≤ H.size) (hu : OwnB m2 H.size H [wu] [zI u]) (h2 : z ≤ b) (h3 : b < m1) (h6 : cs.length = R.length) (h7 : OwnL false z H cs (R.map fun r => zI r) ks) (h8 : ∀ x ∈ ks, x.1 < m1 ∧ x.1 ≠ b) :
    OutR z (H.size + 1) ((H.set b .dead).push (.cells (cs ++ [wu]) 1 false)) (.slice (some ⟨H.size, 0, none⟩) (R.length + 1) 0) (R ++ [u]) := by
  obtain ⟨k2, q1, q2⟩ := hu.in
  have hg : ∀ x, x < H.size → x ≠ b → ((H.set b .dead).push (.cells (cs ++ [wu]) 1 false)).get x = H.get x := fun x hx hn => (get_push_lt (by simp only [nx]; omega)).trans (get_set_ne hn)
  refine .inr ⟨H.size, cs ++ [wu], ks ++ k2, by simp, by omega, by omega, get_push_eq (by simp only [nx]), by simp [h6], ?_, fun x hx => ?_⟩
  · rw [List.map_append]
    refine OwnL.append (h7.keep (.inl rfl) (Nat.le_refl _) fun k hk => ?_) (rs := R.map fun r => zI r) (ss := [zI u]) (q1.keep (.inl rfl) (by omega) fun k hk => ?_) (fun k hk k' hk' e => ?_)
    · have := h8 k hk
      rw [hg k.1 (by omega) this.2]; exact (h7.get k hk).2
    · have := q2 k hk
      rw [hg k.1 this.2 (by omega)]; exact (q1.get k hk).2
    · have := (h8 k hk).1; have := (q2 k' hk').1; omega
  · rcases List.mem_append.1 hx with hx | hx
    · have := h8 x hx; exact ⟨by omega, by omega⟩
    · have := q2 x hx; exact ⟨by omega, by omega⟩
theorem OutR.own {z hi : Nat} {H : Heap} {vo : Value} {R : List (List Int)} (h : OutR z hi H vo R) (hz : z ≤ H.size) (hh : hi ≤ H.size) : OwnB z H.size H [vo] [zII R] := by
  rcases h with ⟨rfl, rfl⟩ | ⟨b, cs, ks, rfl, h2, h3, h5, h6, h7, h8⟩
  · exact (OwnB.nilr (lo := H.size) (hi := H.size) 1).wide hz (Nat.le_refl _)
  · refine ⟨(b, .cells cs 1 false) :: (ks ++ []), ?_, fun x hx => ?_⟩
    · exact OwnL.own h2 h5 (by omega) (by rw [List.length_map]; omega) (h7.nf fun x hx => by obtain ⟨y, _, rfl⟩ := List.mem_map.1 hx; rfl) (by rw [List.drop_zero, List.take_of_length_le (by omega)]; exact h7) .nil (fun x hx => (h8 x (by simpa using hx)).2) (fun x _ y hy => by cases hy)
    · rw [List.append_nil] at hx
      rcases List.mem_cons.1 hx with rfl | hx
      · show b < H.size; omega
      · have := (h8 x hx).1; omega
/-- A row that is frozen, or one's own. -/
def RowV (lo hi : Nat) (H : Heap) (w : Value) (l : List Int) : Prop := w = zI l ∨ OwnB lo hi H [w] [zI l]
theorem RowV.arg {lo hi : Nat} {H : Heap} {w : Value} {l : List Int} {t t' : List Value} (h : RowV lo hi H w l) (ht : ArgL H t t') : ArgL H (w :: t) (zI l :: t') := by
  rcases h with rfl | h
  · exact .cl (Cl.zI l) ht
  · exact .ownB h ht
theorem RowV.keep {lo hi : Nat} {H H' : Heap} {w : Value} {l : List Int} (h : RowV lo hi H w l) (hk : ∀ b, lo ≤ b → b < hi → H'.get b = H.get b) : RowV lo hi H' w l := by
  rcases h with rfl | h
  · exact .inl rfl
  · exact .inr (h.keep hk)
set_option maxHeartbeats 8000000 in
theorem impl_dec {T : List (List (Int × Int))} {v : List Int} (hc : ZCalls Tryz.prog 30 [zT T, zI v] (I 0)) (st up : Nat → List Int) (D : Nat → List (List Int)) (N : Nat) (h0 : st 0 = v) (hD0 : D 0 = []) (hDs : ∀ k, D (k + 1) = D k ++ [up k]) (hDl : ∀ k, (D k).length = k) (hN : N ≤ 100000)
    (hmn : ∀ k, k < N → OCalls Tryz.prog 32 [zI (st k), zI (up k)] (zI (st (k + 1)))) (hfo : ∀ k, k < N → OCalls Tryz.prog 31 [zT T, zI (st k)] (zI (up k))) (hfn : OCalls Tryz.prog 31 [zT T, zI (st N)] (.slice none 0 0)) (hpos : ∀ k, k < N → 0 < (up k).length) :
    OCalls Tryz.prog 13 [zT T, zI v] (iiV (D N) 0) := by
  have his : ∀ a : Addr, (some a).isNone = false := fun _ => rfl
  have hin : (none : Option Addr).isNone = true := rfl
  have hfp : ∀ k w lo hi H, k ≤ N → RowV lo hi H w (st k) → ACalls Tryz.prog 31 [zT T, w] H fun r H' => Ext H H' ∧ ((k = N ∧ r = .slice none 0 0) ∨ (k < N ∧ ∃ g o c, r = .slice (some ⟨g, o, none⟩) (up k).length c ∧ OwnB H.size H'.size H' [r] [zI (up k)])) := fun k w lo hi H hk hw => by
    rcases Nat.lt_or_ge k N with hlt | hge
    · refine ((hfo k hlt).lend (.cl (Cl.zT T) (hw.arg .nil))).mono ?_
      rintro r H' ⟨hO, he⟩
      refine ⟨he, .inr ⟨hlt, ?_⟩⟩
      rcases hO.shape with ⟨q, _⟩ | ⟨g, o, c, ds, rfl, _⟩
      · have := hpos k hlt; omega
      · exact ⟨g, o, c, rfl, hO⟩
    · obtain rfl : k = N := by omega
      refine (hfn.lend (.cl (Cl.zT T) (hw.arg .nil))).mono ?_
      rintro r H' ⟨hO, he⟩
      obtain ⟨l, hl, h4⟩ := OwnB.flat_inv (r := .slice none 0 0) (rs := []) rfl hO
      exact ⟨he, .inl ⟨rfl, (List.cons.inj hl).1⟩⟩
  have hmi : ∀ k wv wu lo hi lo2 hi2 H, k < N → RowV lo hi H wv (st k) → OwnB lo2 hi2 H [wu] [zI (up k)] → ACalls Tryz.prog 32 [wv, wu] H fun r H' => Ext H H' ∧ OwnB H.size H'.size H' [r] [zI (st (k + 1))] := fun k wv wu lo hi lo2 hi2 H hk hv hu => by
    refine ((hmn k hk).lend (hv.arg (.ownB hu .nil))).mono ?_
    rintro r H' ⟨hO, he⟩
    exact ⟨he, hO⟩
  clear hmn hfo hfn
  refine OCalls.body Tryz.func13 rfl Tryz.ntmps13 (rs := [.tmp 4, .tmp 5]) rfl (by simp) rfl fun H Q hQ A hA => ?_
  have a0 := hA 0 _ _ rfl
  have a1 := hA 1 _ _ rfl
  clear hA
  have hfp0 := hfp 0 (zI v) 0 0 H (by omega) (.inl (by rw [h0]))
  repeat' first | refine rnY ?_ | (first | refine ZCalls.to (hc) ?_ | refine ZCalls.tf (hc) ?_) | with_reducible refine And.intro (fun hc => ?_) (fun hc => ?_) | fail
  refine hfp0.mono ?_
  clear hfp0
  rintro r H1 ⟨he, hr⟩
  have heg := he.get; have hes := he.size; (try simp only [nx] at hes)
  repeat' first | refine rnY ?_ | with_reducible refine And.intro (fun hc => ?_) (fun hc => ?_) | fail
  refine AWp.cut (fun Ac hAc => ?_)
  have c2 := gtY (t := 2) hAc
  have c1 := gtY (t := 1) hAc
  have c7 := gtY (t := 7) hAc
  have c8 := gtY (t := 8) hAc
  clear a0 a1
  have hcv : RowV 0 0 H1 (zI v) (st 0) := .inl (by rw [h0])
  refine AWp.loopx (σ := Nat) (fun s A' H' => ∃ (k : Nat) (wv vo wu : Value) (m1 m2 : Nat), Ag [18, 19, 20, 21, 22, 23, 24, 25, 26, 27, 28, 29] A' (put (put (put Ac (some 1) (wv)) (some 7) (vo)) (some 8) (wu)) ∧ s + k = N ∧ Ext H H' ∧ H.size ≤ m1 ∧ m1 ≤ m2 ∧ m2 ≤ H'.size ∧ OutR H.size m1 H' vo (D k) ∧ RowV m1 m2 H' wv (st k) ∧ ((k = N ∧ wu = .slice none 0 0) ∨ (k < N ∧ ∃ g o c, wu = .slice (some ⟨g, o, none⟩) (up k).length c ∧ OwnB m2 H'.size H' [wu] [zI (up k)]))) (fun s => s) (N) ?_ ?_
  · exact ⟨0, zI v, .slice none 0 0, r, H.size, H.size, agY, by omega, by exact exY, Nat.le_refl _, Nat.le_refl _, by omega, .inl ⟨hD0, rfl⟩, .inl (by rw [h0]), hr⟩
  · rintro s A1 H2 ⟨k, wv, vo, wu, m1, m2, hA, hsk, hx, hm1, hm2, hm3, ho, hv, hu⟩
    have d1 := gdY (t := 1) hA
    have d2 := gdY (t := 2) hA
    have d7 := gdY (t := 7) hA
    have d8 := gdY (t := 8) hA
    have hxg := hx.get; have hxs := hx.size; (try simp only [nx] at hxs)
    rcases hu with ⟨hkN, rfl⟩ | ⟨hkN, g, o, c, rfl, hO⟩
    · have hO := ho.own hxs (by omega)
      subst hkN
      clear hfp hmi hr hDs hDl hpos hv hm1 hm2 hm3
      generalize D k = R at *
      have hE : Ext H H2 := hx
      rcases ho with ⟨rfl, rfl⟩ | ⟨b, cs, ks, rfl, _⟩
      · repeat' first | refine rnY ?_ | with_reducible refine And.intro (fun hc => ?_) (fun hc => ?_) | fail
        exact hQ.out _ _ ((two_nil (H := H2) 0).wide (lo' := H.size) (by omega) (Nat.le_refl _)).out (by exact exY)
      · repeat' first | refine rnY ?_ | with_reducible refine And.intro (fun hc => ?_) (fun hc => ?_) | fail
        exact hQ.out _ _ (OwnB.tup (l := [_, I 0]) (l' := [zII R, I 0]) (.cflats (hO.wide (Nat.le_refl _) (Nat.le_refl _)) (fun x hx => by simp at hx; subst hx; rfl))).out (by exact exY)
    · have hDs := hDs k
      have hRl : (D k).length ≤ 100000 := by rw [hDl]; omega
      have hfp := fun w lo hi H hw => hfp (k + 1) w lo hi H hkN hw
      have hmi := fun H0 (hv : RowV m1 m2 H0 wv (st k)) (hu : OwnB m2 H2.size H0 [.slice (some ⟨g, o, none⟩) (up k).length c] [zI (up k)]) => hmi k wv _ m1 m2 m2 H2.size H0 hkN hv hu
      clear hD0 h0 hcv hr hDl
      generalize D k = R at *
      generalize up k = u at *
      rcases ho with ⟨rfl, rfl⟩ | ⟨b, cs, ks, rfl, h2, h3, h5, h6, h7, h8⟩
      · have hv1 : RowV m1 m2 (H2.push (.cells [.slice (some ⟨g, o, none⟩) u.length c] 1 false)) wv (st k) := hv.keep fun b h1 h2 => get_push_lt (by omega)
        have hO1 : OwnB m2 H2.size (H2.push (.cells [.slice (some ⟨g, o, none⟩) u.length c] 1 false)) [.slice (some ⟨g, o, none⟩) u.length c] [zI u] := hO.keep fun b h1 h2 => get_push_lt h2
        have hn := OutR.snoc0 (z := H.size) (m2 := m2) (by omega) hm3 hO
        have hmi := hmi _ hv1 hO1
        clear hv hv1 hO1
        repeat' first | refine rnY ?_ | (refine appR0 rfl ?_) | (refine hmi.mono ?_; clear hmi; rintro w H3 ⟨he3, hO3⟩; have hw3 := hO3.one; have he3g := he3.get; have he3s := he3.size; (try simp only [nx] at he3s)) | (refine (hfp _ _ _ _ (.inr hO3)).mono ?_; clear hfp; rintro r4 H4 ⟨he4, hr4⟩; have he4g := he4.get; have he4s := he4.size; (try simp only [nx] at he4s)) | with_reducible refine And.intro (fun hc => ?_) (fun hc => ?_) | fail
        have hn4 := (hn.ext (Nat.le_refl _) he3).ext he3s he4
        exact ⟨s - 1, ⟨k + 1, w, _, r4, H2.size + 1, H3.size, agY, by omega, by exact exY, by omega, by omega, by omega, by rw [hDs]; exact hn4, .inr (hO3.ext (Nat.le_refl _) he4), hr4⟩, by omega⟩
      · have hgb : ∀ x, x < H2.size → x ≠ b → ((H2.set b .dead).push (.cells (cs ++ [.slice (some ⟨g, o, none⟩) u.length c]) 1 false)).get x = H2.get x := fun x hx hn => (get_push_lt (by simp only [nx]; omega)).trans (get_set_ne hn)
        have hv1 : RowV m1 m2 ((H2.set b .dead).push (.cells (cs ++ [.slice (some ⟨g, o, none⟩) u.length c]) 1 false)) wv (st k) := hv.keep fun x h1 h2 => hgb x (by omega) (by omega)
        have hO1 : OwnB m2 H2.size ((H2.set b .dead).push (.cells (cs ++ [.slice (some ⟨g, o, none⟩) u.length c]) 1 false)) [.slice (some ⟨g, o, none⟩) u.length c] [zI u] := hO.keep fun x h1 h2 => hgb x h2 (by omega)
        have hn := OutR.snoc (z := H.size) (m1 := m1) (m2 := m2) hm2 hm3 hO h2 h3 h6 h7 h8
        have hmi := hmi _ hv1 hO1
        clear hv hv1 hO1 h7 h8
        repeat' first | refine rnY ?_ | (refine appR h5 h6 rfl (by omega) ?_) | (refine hmi.mono ?_; clear hmi; rintro w H3 ⟨he3, hO3⟩; have hw3 := hO3.one; have he3g := he3.get; have he3s := he3.size; (try simp only [nx] at he3s)) | (refine (hfp _ _ _ _ (.inr hO3)).mono ?_; clear hfp; rintro r4 H4 ⟨he4, hr4⟩; have he4g := he4.get; have he4s := he4.size; (try simp only [nx] at he4s)) | with_reducible refine And.intro (fun hc => ?_) (fun hc => ?_) | fail
        have hn4 := (hn.ext (by first | omega | (simp only [nx]; omega)) he3).ext (by first | omega | (simp only [nx] at he3s; omega)) he4
        exact ⟨s - 1, ⟨k + 1, w, _, r4, H2.size + 1, H3.size, agY, by omega, by exact exY, by omega, by omega, by omega, by rw [hDs]; exact hn4, .inr (hO3.ext (Nat.le_refl _) he4), hr4⟩, by omega⟩
end Go.Proofs.YtmoknllbpjpkmaaGreat.Zed
