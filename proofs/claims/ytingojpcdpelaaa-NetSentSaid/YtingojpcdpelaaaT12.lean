/-
  NetSent, over memory.
  No condition beyond those that each theorem names.
-/
import Derived.Test.YtingojpcdpelaaaM12
import Derived.Test.YtingojpcdpelaaaSxr
set_option linter.unusedSimpArgs false
open Go.Sx
set_option linter.unusedVariables false
namespace Go.Proofs.Ytingojpcdpelaaa

def sumI : List Int → Int
  | [] => 0
  | a :: l => a + sumI l
theorem sumI_snoc (x : Int) : ∀ l : List Int, sumI (l ++ [x]) = sumI l + x
  | [] => by simp [sumI]
  | a :: l => by simp only [List.cons_append, sumI, sumI_snoc x l]; omega
theorem sumI_set (x : Int) : ∀ (l : List Int) (k : Nat) (hk : k < l.length), sumI (l.set k x) = sumI l - l[k] + x
  | [], _, hk => by simp at hk
  | a :: l, 0, _ => by simp only [List.set_cons_zero, sumI, List.getElem_cons_zero]; omega
  | a :: l, k + 1, hk => by simp only [List.set_cons_succ, sumI, List.getElem_cons_succ, sumI_set x l k (by simpa using hk)]; omega
theorem sumI_bound (n : Nat) : ∀ l : List Int, (∀ x ∈ l, -(n : Int) ≤ x ∧ x ≤ n) → -(l.length * n : Int) ≤ sumI l ∧ sumI l ≤ l.length * n
  | [], _ => by simp [sumI]
  | a :: l, h => by
    have h1 := sumI_bound n l fun x hx => h x (List.mem_cons_of_mem _ hx)
    have h2 := h a List.mem_cons_self
    have h3 : ((l.length + 1 : Nat) : Int) * n = l.length * n + n := by rw [Int.natCast_add, Int.add_mul]; simp
    simp only [sumI, List.length_cons]
    omega

theorem look_get {N : List Pk} (h : (N.map Pk.num).Pairwise (· < ·)) {i : Nat} (hi : i < N.length) : look N N[i].num = some N[i] := by
  unfold look
  rw [List.find?_eq_some_iff_getElem]
  refine ⟨by simp, i, hi, rfl, fun j hj => ?_⟩
  have hlt := List.pairwise_iff_getElem.1 h j i (by simp; omega) (by simp; omega) hj
  simp at hlt
  simp; omega
theorem del_length : ∀ {N : List Pk}, (N.map Pk.num).Pairwise (· < ·) → ∀ x ∈ N, (del N x.num).length + 1 = N.length
  | [], _, x, hx => by simp at hx
  | a :: N, h, x, hx => by
    obtain ⟨h1, h2⟩ := List.pairwise_cons.1 (show ((a.num :: N.map Pk.num)).Pairwise (· < ·) from h)
    have hself : (N.filter fun y => !decide (y.num = a.num)) = N := by
      rw [List.filter_eq_self]
      intro y hy
      have := h1 y.num (List.mem_map_of_mem hy)
      simp; omega
    rcases List.mem_cons.1 hx with rfl | hx
    · unfold del
      simp only [List.filter_cons, decide_true, Bool.not_true, Bool.false_eq_true, if_false, hself, List.length_cons]
    · have hne : a.num ≠ x.num := by have := h1 x.num (List.mem_map_of_mem hx); omega
      have := del_length h2 x hx
      unfold del at this ⊢
      simp only [List.filter_cons, decide_eq_false hne, Bool.not_false, if_true, List.length_cons]
      omega
theorem del_sub {N : List Pk} {n : Int} : ∀ x ∈ del N n, x ∈ N := fun x hx => (List.mem_filter.1 hx).1

theorem pkl_agg {n0 : Nat} {w : AW} {l : List Pk} {cs : List AV} (h : PkL n0 w l cs) (i : Nat) (hi : i < l.length) : ∃ v, (cs.drop (i * 4)).take 4 = [.int .i64 l[i].num, .int .i64 l[i].src, .int .i64 l[i].dst, v] ∧ BS n0 w v l[i].body := by
  obtain ⟨v, h0, h1, h2, h3, hb⟩ := h.get i hi
  refine ⟨v, ?_, hb⟩
  have g0 : (cs.drop (i * 4))[0]? = some (.int .i64 l[i].num) := by rw [List.getElem?_drop]; exact h0
  have g1 : (cs.drop (i * 4))[1]? = some (.int .i64 l[i].src) := by rw [List.getElem?_drop]; exact h1
  have g2 : (cs.drop (i * 4))[2]? = some (.int .i64 l[i].dst) := by rw [List.getElem?_drop]; exact h2
  have g3 : (cs.drop (i * 4))[3]? = some v := by rw [List.getElem?_drop]; exact h3
  match hd : cs.drop (i * 4) with
  | [] => rw [hd] at g0; cases g0
  | [_] => rw [hd] at g1; cases g1
  | [_, _] => rw [hd] at g2; cases g2
  | [_, _, _] => rw [hd] at g3; cases g3
  | _ :: _ :: _ :: _ :: _ =>
    rw [hd] at g0 g1 g2 g3
    cases g0; cases g1; cases g2; cases g3
    rfl
/-- A list of packets: its length, one of them. -/
theorem pks_len {n0 : Nat} {w : AW} {v : AV} {l : List Pk} (h : PkS n0 w v l) : lenS v = some (.int .i64 l.length) := by
  obtain ⟨cs, h1, h2, _⟩ := h
  have := h1.rs (by decide)
  rw [h2.length, Nat.mul_div_cancel _ (by decide)] at this
  exact this.len
theorem pks_at {n0 : Nat} {w : AW} {v : AV} {l : List Pk} (h : PkS n0 w v l) {i : Nat} (hi : i < l.length) {K : Nat → Nat → Prop}
    (hK : ∀ b o u, BS n0 w u l[i].body → ld w b (o + 0) = some (.int .i64 l[i].num) → ldN 4 w b o = some (.agg [.int .i64 l[i].num, .int .i64 l[i].src, .int .i64 l[i].dst, u]) → K b o) : atP (idxS 4 v (.int .i64 (i : Int))) K := by
  obtain ⟨cs, h1, h2, _⟩ := h
  have hrs := h1.rs (by decide)
  rw [h2.length, Nat.mul_div_cancel _ (by decide)] at hrs
  obtain ⟨u, e, hb⟩ := pkl_agg h2 i hi
  obtain ⟨_, h0, _⟩ := h2.get i hi
  refine hrs.at (by omega) (by omega) fun b o hf hN => hK b o u hb ?_ ?_
  · exact (hf 0 (by decide)).trans h0
  · have : (i : Int).toNat = i := rfl
    rw [this, e] at hN; exact hN
theorem pks_keep {n0 : Nat} {w w' : AW} {v : AV} {l : List Pk} (h : PkS n0 w v l) (hm : Mem w) (hc : ∀ c, n0 ≤ c → c < w.size → w'.get c = w.get c) : PkS n0 w' v l := by
  obtain ⟨cs, h1, h2, h3⟩ := h
  refine ⟨cs, ?_, h2.mono fun u s hb => ?_, h3⟩
  · rcases h1 with h | ⟨b, f, n, o, d, e0, e1, e2, e3, e4, e5, e6⟩
    · exact .inl h
    · obtain ⟨c0, hc0, _⟩ := AW.root?_iff.1 e6
      have hfb := hm.fam _ _ _ _ _ e5
      exact .inr ⟨b, f, n, o, d, e0, e1, e2, e3, e4, (hc _ (by omega) (hm.lt _ _ e5)).trans e5, by rw [AW.root?_congr (hc _ e3 (hm.lt _ _ hc0))]; exact e6⟩
  · rcases hb with h | ⟨c, ex, e1, e2, e3, e4⟩
    · exact .inl h
    · exact .inr ⟨c, ex, e1, e2, e3, (hc _ e3 (e4.lt hm)).trans e4⟩

theorem or_all : (List.range 128).all (fun k => decide (bOr .i64 (shlI .i64 (wi (IntKind.wrap .u8 (shrI .i64 (k : Int) 8))) 8) (wi (IntKind.wrap .u8 (k : Int))) = (k : Int))) = true := by decide +kernel
theorem or_eq {k : Nat} (hk : k < 128) : bOr .i64 (shlI .i64 (wi (IntKind.wrap .u8 (shrI .i64 (k : Int) 8))) 8) (wi (IntKind.wrap .u8 (k : Int))) = (k : Int) :=
  of_decide_eq_true (List.all_eq_true.1 or_all k (List.mem_range.2 hk))

theorem s16 {hk : Hook} {w : AW} {v : AV} {n1 S num k b3 b6 b8 : Nat} {ow : List Int} {K : AV → AW → Prop} (hh : HK hk) (hm : Mem w) (hw : 0 < w.size) (h3 : Box w b3 [.int .i64 S]) (h8 : Box w b8 [.slice b6 0 400 400 none]) (h6 : Box w b6 (ow.map (AV.int .i64)))
    (hol : ow.length = 400) (hnum : num < 400) (ho : ow[num]? = some ((k : Int) + 1)) (hkS : k < S) (hS : S ≤ 100) (hv : BS n1 w v (bodyOf k)) (hK : ∀ w', Fr w.size w w' → K (.bool true) w') :
    Cl Try.prog hk 16 [.agg [.int .i64 (num : Int), .int .i64 (k : Int), .int .i64 ((k : Int) + 1), v], .int .i64 0, .ptr b3 0, .ptr b8 0] w K := by
  apply in16 (hh.no _ _ _ (by decide) (by decide))
  unfold F16
  simp only [be, onP]
  refine gd_t (by simp only [List.all_cons, List.all_nil, hv.ok]; rfl) (new_of hm fun w8 f8 b7 z8 => ifT_nd (fun h => absurd trivial h) fun _ => ?_)
  have hv8 := hv.fr hm f8 (Nat.le_refl _)
  have h3' := h3.fr f8 (h3.lt hm)
  have hl := bodyOf_length k
  have g0 : 0 < (bodyOf k).length := by omega
  have g1 : 1 < (bodyOf k).length := by omega
  refine onM_s (v := v) (by rw [b7.ld]; rfl) ⟨_, hv8.rs.len, ifT_d (fun h => by rw [hl] at h; omega) fun _ => ?_⟩
  refine onM_s (v := v) (by rw [b7.ld]; rfl) (RsB.at (i := 0) hv8.rs g0 fun ba oa ha => ⟨_, ha, ?_⟩)
  refine onM_s (v := v) (by rw [b7.ld]; rfl) (RsB.at (i := 1) hv8.rs g1 fun bb ob hb => ⟨_, hb, ?_⟩)
  have e0 : (((bodyOf k)[0].toNat : Nat) : Int) = IntKind.wrap .u8 (shrI .i64 (k : Int) 8) := of8 _
  have e1 : (((bodyOf k)[1].toNat : Nat) : Int) = IntKind.wrap .u8 (k : Int) := of8 _
  rw [e0, e1, or_eq (by omega)]
  refine ⟨S, by rw [h3'.ld]; rfl, ifT_d (fun _ => ?_) fun h => by omega⟩
  refine ⟨k, by rw [b7.ld]; rfl, ifT_d (fun _ => ?_) fun h => absurd rfl h⟩
  rw [wi_eq (by omega) (by omega)]
  refine ⟨(k : Int) + 1, by rw [b7.ld]; rfl, ifT_d (fun _ => ?_) fun h => absurd rfl h⟩
  refine onM_s (v := v) (by rw [b7.ld]; rfl) (s18 hh f8.mem (by omega) fun u w27 f27 hu => ?_)
  have b7' := b7.fr f27 (by omega)
  have hs27 := f27.size
  refine ⟨by rw [b7'.ld]; rfl, s17 hh (hv8.fr f8.mem f27 (Nat.le_refl _)).rs hu.rs ⟨_, rfl, ?_⟩⟩
  rw [show (bodyOf k == bodyOf k) = true by simp]
  have f27' : Fr w.size w w27 := f8.trans f27 (by omega)
  have h8' := h8.fr f27' (h8.lt hm)
  have h6' := h6.fr f27' (h6.lt hm)
  refine ifT_t (onM_s (v := .slice b6 0 400 400 none) (by rw [h8'.ld]; rfl) ⟨num, by rw [b7'.ld]; rfl, idx0 hnum ⟨(k : Int) + 1, by rw [h6'.ld, List.getElem?_map, ho]; rfl, ?_⟩⟩)
  rw [decide_eq_true (show (k : Int) + 1 = (k : Int) + 1 from rfl)]
  exact hK _ f27'

/-! ### What is gathered -/
structure NM (w0 : AW) (m2 b r : Nat) (w : AW) (N : List Pk) (L : Nat) (S : Nat) (ow : List Int) (v : AV) (l : List Int) : Prop where
  mem : Mem w
  size : m2 + 3 ≤ w.size
  low : w0.size ≤ b ∧ w0.size ≤ r ∧ b < m2 ∧ r < m2 ∧ 0 < w0.size
  old : ∀ c, c < w0.size → w.get c = w0.get c
  net : Net w0.size w b r N L
  B3 : Box w m2 [.int .i64 S]
  B6 : Box w (m2 + 1) (ow.map (AV.int .i64))
  B8 : Box w (m2 + 2) [.slice (m2 + 1) 0 400 400 none]
  gi : Gi (m2 + 3) w v l
structure NP (N : List Pk) (L : Nat) (S : Nat) (ow : List Int) (l : List Int) (n : Nat) (lost dlv : Int) : Prop where
  owl : ow.length = 400
  ls : l.length = S
  pk : ∀ x ∈ N, ∃ k num : Nat, x.num = num ∧ k < S ∧ ow[num]? = some ((k : Int) + 1) ∧ x.src = k ∧ x.dst = (k : Int) + 1 ∧ x.body = bodyOf k
  c1 : dlv + N.length = sumI l
  c2 : (L : Int) = sumI l + lost
  small : ∀ x ∈ l, -(n : Int) ≤ x ∧ x ≤ n
  cnt : S ≤ n ∧ L ≤ n ∧ N.length ≤ n ∧ 0 ≤ lost ∧ lost ≤ n ∧ 0 ≤ dlv ∧ dlv ≤ n

section
variable {w0 : AW} {m2 b r : Nat} {w w' : AW} {N : List Pk} {L S : Nat} {ow l : List Int} {v : AV}
theorem NM.fr (h : NM w0 m2 b r w N L S ow v l) (hf : Fr w.size w w') : NM w0 m2 b r w' N L S ow v l := by
  have := h.size; have := hf.size; have := h.low
  exact ⟨hf.mem, by omega, h.low, fun c hc => (hf.old c (by omega)).trans (h.old c hc), h.net.fr h.mem hf, h.B3.fr hf (by omega), h.B6.fr hf (by omega), h.B8.fr hf (by omega), h.gi.keep h.mem fun c _ hc => hf.old c hc⟩
theorem NM.nt (h : NM w0 m2 b r w N L S ow v l) {X : List Nat} (hX : ∀ x ∈ X, x = b ∨ x = r) (hc : Ch X w w') {N' : List Pk} {L' : Nat} (hN : Net w0.size w' b r N' L') : NM w0 m2 b r w' N' L' S ow v l := by
  have := h.size; have := hc.size; have hl := h.low
  have key : ∀ c, c ≠ b → c ≠ r → c ∉ X := fun c h1 h2 hx => by rcases hX c hx with e | e <;> omega
  exact ⟨hc.mem, by omega, h.low, fun c h1 => (hc.old c (by omega) (key c (by omega) (by omega))).trans (h.old c h1), hN, hc.box h.mem h.B3 (key _ (by omega) (by omega)), hc.box h.mem h.B6 (key _ (by omega) (by omega)), hc.box h.mem h.B8 (key _ (by omega) (by omega)), h.gi.keep h.mem fun c h1 h2 => hc.old c h2 (key c (by omega) (by omega))⟩
theorem NM.b3 (h : NM w0 m2 b r w N L S ow v l) (hc : Ch [m2] w w') {S' : Nat} (hb : Box w' m2 [.int .i64 S']) : NM w0 m2 b r w' N L S' ow v l := by
  have := h.size; have := hc.size; have := h.low
  exact ⟨hc.mem, by omega, h.low, fun c h1 => (hc.old c (by omega) (by simp; omega)).trans (h.old c h1), h.net.ch h.mem hc (by omega) (by omega) (not_bytes h.B3 (by simp)), hb, hc.box h.mem h.B6 (by simp), hc.box h.mem h.B8 (by simp), h.gi.keep h.mem fun c h1 h2 => hc.old c h2 (by simp; omega)⟩
theorem NM.b6 (h : NM w0 m2 b r w N L S ow v l) (hc : Ch [m2 + 1] w w') {ow' : List Int} (hne : ow ≠ []) (hb : Box w' (m2 + 1) (ow'.map (AV.int .i64))) : NM w0 m2 b r w' N L S ow' v l := by
  have := h.size; have := hc.size; have := h.low
  refine ⟨hc.mem, by omega, h.low, fun c h1 => (hc.old c (by omega) (by simp; omega)).trans (h.old c h1), h.net.ch h.mem hc (by omega) (by omega) ?_, hc.box h.mem h.B3 (by simp), hb, hc.box h.mem h.B8 (by simp), h.gi.keep h.mem fun c h1 h2 => hc.old c h2 (by simp; omega)⟩
  cases ow with
  | nil => exact absurd rfl hne
  | cons a t => exact not_bytes h.B6 (by simp)
theorem NM.gr (h : NM w0 m2 b r w N L S ow v l) (hg : GiR (m2 + 3) w w') {v' : AV} {l' : List Int} (hgi : Gi (m2 + 3) w' v' l') : NM w0 m2 b r w' N L S ow v' l' := by
  have := h.size; have := hg.fr.size; have hlw := h.low
  obtain ⟨es, cl, h1, h2⟩ := h.net.map
  refine ⟨hg.fr.mem, by omega, h.low, fun c hc => (hg.fr.old c (by omega)).trans (h.old c hc), ⟨h.net.b0, h.net.nb, h.net.nr, h.net.box.fr hg.fr (by omega), ⟨es, cl, (hg.fr.old _ (by omega)).trans h1, h2.mono fun x u ⟨bv, e, hb⟩ => ⟨bv, e, ?_⟩⟩, h.net.rise, h.net.low, h.net.last0, h.net.cap⟩, h.B3.fr hg.fr (by omega), h.B6.fr hg.fr (by omega), h.B8.fr hg.fr (by omega), hgi⟩
  rcases hb with hb | ⟨c, ex, e1, e2, e3, e4⟩
  · exact .inl hb
  · exact .inr ⟨c, ex, e1, e2, e3, hg.bytes _ _ e4⟩
theorem NM.fr0 (h : NM w0 m2 b r w N L S ow v l) : Fr w0.size w0 w := ⟨by have := h.size; have := h.low; omega, h.old, h.mem⟩
end

section
variable {N : List Pk} {L S : Nat} {ow l : List Int} {n : Nat} {lost dlv : Int}
theorem NP.send (h : NP N L S ow l n lost dlv) (hlow : ∀ x ∈ N, 1 ≤ x.num ∧ x.num ≤ L) (hn : n < 100) : NP (N ++ [⟨(L : Int) + 1, S, (S : Int) + 1, bodyOf S⟩]) (L + 1) (S + 1) (ow.set (L + 1) ((S : Int) + 1)) (l ++ [1]) (n + 1) lost dlv := by
  obtain ⟨k1, k2, k3, k4, k5, k6, k7⟩ := h.cnt
  refine ⟨by rw [List.length_set]; exact h.owl, by simp [h.ls], fun x hx => ?_, ?_, ?_, fun x hx => ?_, by omega, by omega, by simp; omega, by omega, by omega, by omega, by omega⟩
  · rcases List.mem_append.1 hx with hx | hx
    · obtain ⟨k, num, e1, e2, e3, e4⟩ := h.pk x hx
      have := hlow x hx
      exact ⟨k, num, e1, by omega, by rw [List.getElem?_set_ne (by omega)]; exact e3, e4⟩
    · simp at hx; subst hx
      exact ⟨S, L + 1, rfl, by omega, by rw [List.getElem?_set_self (by rw [h.owl]; omega)], rfl, rfl, rfl⟩
  · rw [sumI_snoc, List.length_append]; have := h.c1; simp; omega
  · rw [sumI_snoc]; have := h.c2; omega
  · rcases List.mem_append.1 hx with hx | hx
    · have := h.small x hx; omega
    · simp at hx; omega
theorem NP.dlvr (h : NP N L S ow l n lost dlv) (hr : (N.map Pk.num).Pairwise (· < ·)) {x : Pk} (hx : x ∈ N) (hn : n < 100) : NP (del N x.num) L S ow l (n + 1) lost (dlv + 1) := by
  obtain ⟨k1, k2, k3, k4, k5, k6, k7⟩ := h.cnt
  have hd := del_length hr x hx
  refine ⟨h.owl, h.ls, fun y hy => h.pk y (del_sub y hy), by have := h.c1; omega, h.c2, fun y hy => by have := h.small y hy; omega, by omega, by omega, by omega, by omega, by omega, by omega, by omega⟩
theorem NP.drop (h : NP N L S ow l n lost dlv) (hr : (N.map Pk.num).Pairwise (· < ·)) {x : Pk} (hx : x ∈ N) (hn : n < 100) {k : Nat} (hk : k < l.length) : NP (del N x.num) L S ow (l.set k (l[k] - 1)) (n + 1) (lost + 1) dlv := by
  obtain ⟨k1, k2, k3, k4, k5, k6, k7⟩ := h.cnt
  have hd := del_length hr x hx
  refine ⟨h.owl, by rw [List.length_set]; exact h.ls, fun y hy => h.pk y (del_sub y hy), ?_, ?_, fun y hy => ?_, by omega, by omega, by omega, by omega, by omega, by omega, by omega⟩
  · rw [sumI_set _ _ _ hk]; have := h.c1; omega
  · rw [sumI_set _ _ _ hk]; have := h.c2; omega
  · rcases List.mem_or_eq_of_mem_set hy with hy | rfl
    · have := h.small y hy; omega
    · have := h.small _ (List.getElem_mem hk); omega
theorem NP.dbl (h : NP N L S ow l n lost dlv) (hlow : ∀ x ∈ N, 1 ≤ x.num ∧ x.num ≤ L) {x : Pk} (hx : x ∈ N) (hn : n < 100) {k : Nat} (hkS : k < S) (hk : k < l.length) (h4 : x.src = k) (h5 : x.dst = (k : Int) + 1) (h6 : x.body = bodyOf k) :
    NP (N ++ [⟨(L : Int) + 1, x.src, x.dst, x.body⟩]) (L + 1) S (ow.set (L + 1) ((k : Int) + 1)) (l.set k (l[k] + 1)) (n + 1) lost dlv := by
  obtain ⟨k1, k2, k3, k4, k5, k6, k7⟩ := h.cnt
  refine ⟨by rw [List.length_set]; exact h.owl, by rw [List.length_set]; exact h.ls, fun y hy => ?_, ?_, ?_, fun y hy => ?_, by omega, by omega, by simp; omega, by omega, by omega, by omega, by omega⟩
  · rcases List.mem_append.1 hy with hy | hy
    · obtain ⟨k, num, e1, e2, e3, e4⟩ := h.pk y hy
      have := hlow y hy
      exact ⟨k, num, e1, by omega, by rw [List.getElem?_set_ne (by omega)]; exact e3, e4⟩
    · simp at hy; subst hy
      exact ⟨k, L + 1, rfl, hkS, by rw [List.getElem?_set_self (by rw [h.owl]; omega)], h4, h5, h6⟩
  · rw [sumI_set _ _ _ hk, List.length_append]; have := h.c1; simp; omega
  · rw [sumI_set _ _ _ hk]; have := h.c2; omega
  · rcases List.mem_or_eq_of_mem_set hy with hy | rfl
    · have := h.small y hy; omega
    · have := h.small _ (List.getElem_mem hk); omega
end
end Go.Proofs.Ytingojpcdpelaaa
