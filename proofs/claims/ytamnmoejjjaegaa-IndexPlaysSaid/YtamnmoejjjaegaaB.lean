/- What a B-tree holds (flat), its shape, ascending lists of keys and values: the plain law. No program, no conditions. -/
import Derived.Test.YtamnmoejjjaegaaH
import Derived.Test.YtamnmoejjjaegaaK
set_option linter.unusedVariables false
set_option linter.unusedSimpArgs false
namespace Go.Proofs.Ytamnmoejjjaegaa
open Go

abbrev E := ByteArray × Int

def tl : List E → List (List E) → List E
  | x :: xs, c :: cs => x :: (c ++ tl xs cs)
  | _, _ => []
def wl : List E → List (List E) → List E
  | x :: xs, c :: cs => c ++ x :: wl xs cs
  | _, _ => []
def weave (xs : List E) : List (List E) → List E
  | [] => []
  | c :: cs => c ++ tl xs cs

theorem tl_append : ∀ (X1 X2 : List E) (C1 C2 : List (List E)), X1.length = C1.length → tl (X1 ++ X2) (C1 ++ C2) = tl X1 C1 ++ tl X2 C2
  | [], _, [], _, _ => by simp [tl]
  | [], _, _ :: _, _, h => by simp at h
  | _ :: _, _, [], _, h => by simp at h
  | x :: X1, X2, c :: C1, C2, h => by simp [tl, tl_append X1 X2 C1 C2 (by simpa using h)]

theorem weave_at : ∀ (X1 X2 : List E) (C1 C2 : List (List E)) (c : List E), X1.length = C1.length → weave (X1 ++ X2) (C1 ++ c :: C2) = wl X1 C1 ++ c ++ tl X2 C2
  | [], _, [], _, _, _ => by simp [weave, wl]
  | [], _, _ :: _, _, _, h => by simp at h
  | _ :: _, _, [], _, _, h => by simp at h
  | x :: X1, X2, e :: C1, C2, c, h => by
    have := weave_at X1 X2 C1 C2 c (by simpa using h)
    cases C1 with
    | nil =>
      cases X1 with
      | nil => simp [weave, wl, tl]
      | cons _ _ => simp at h
    | cons e' C1 =>
      simp only [List.cons_append, weave, tl, wl] at this ⊢
      simp only [List.append_assoc, List.cons_append, this]

theorem weave_join (X1 X2 : List E) (x : E) (D1 D2 : List (List E)) (h1 : D1.length = X1.length + 1) (h2 : D2 ≠ []) : weave (X1 ++ x :: X2) (D1 ++ D2) = weave X1 D1 ++ x :: weave X2 D2 := by
  cases D1 with
  | nil => simp at h1
  | cons d D1 =>
    cases D2 with
    | nil => exact (h2 rfl).elim
    | cons e D2 => simp [weave, tl_append X1 (x :: X2) D1 (e :: D2) (by simpa using h1.symm), tl]

/-- The keys and values below a node of height h, in order. -/
def flat : Nat → BT → List E
  | 0, t => t.ks.zip t.vs
  | h + 1, t => weave (t.ks.zip t.vs) (t.cs.map (flat h))

/-- The children of a node with n keys. -/
def KidsOk (P : BT → Prop) : Nat → Nat → List BT → Prop
  | 0, _, cs => cs = []
  | _ + 1, n, cs => cs.length = n + 1 ∧ ∀ c ∈ cs, P c
/-- The form of a B-tree of degree d and of height h. -/
def Shape (d : Nat) : Nat → BT → Prop
  | 0, t => t.vs.length = t.ks.length ∧ t.ks.length + 1 ≤ 2 * d ∧ t.cs = []
  | h + 1, t => t.vs.length = t.ks.length ∧ t.ks.length + 1 ≤ 2 * d ∧ t.cs.length = t.ks.length + 1 ∧ ∀ c ∈ t.cs, d ≤ c.ks.length + 1 ∧ Shape d h c
/-- The form of the children of a node with n keys. -/
def Kid (d : Nat) : Nat → Nat → List BT → Prop
  | 0, _, cs => cs = []
  | h + 1, n, cs => cs.length = n + 1 ∧ ∀ c ∈ cs, d ≤ c.ks.length + 1 ∧ Shape d h c
theorem shape_iff (d h : Nat) (t : BT) : Shape d h t ↔ t.vs.length = t.ks.length ∧ t.ks.length + 1 ≤ 2 * d ∧ Kid d h t.ks.length t.cs := by
  cases h <;> rfl

/-- Left of a child, right of a child. -/
def Lf (h : Nat) (K : List ByteArray) (V : List Int) (C : List BT) : List E := wl (K.zip V) (C.map (flat h))
def Rt (h : Nat) (K : List ByteArray) (V : List Int) (C : List BT) : List E := tl (K.zip V) (C.map (flat h))

theorem zip_app {α β : Type} (a1 a2 : List α) (b1 b2 : List β) (h : a1.length = b1.length) : (a1 ++ a2).zip (b1 ++ b2) = a1.zip b1 ++ a2.zip b2 := List.zip_append h
theorem zip_len {α β : Type} (a : List α) (b : List β) (h : b.length = a.length) : (a.zip b).length = a.length := by rw [List.length_zip, h, Nat.min_self]

theorem flat_at (h : Nat) (K1 K2 : List ByteArray) (V1 V2 : List Int) (C1 C2 : List BT) (c : BT) (h1 : V1.length = K1.length) (h2 : C1.length = K1.length) :
    flat (h + 1) (.node (K1 ++ K2) (V1 ++ V2) (C1 ++ c :: C2)) = Lf h K1 V1 C1 ++ flat h c ++ Rt h K2 V2 C2 := by
  simp only [flat, BT.ks_node, BT.vs_node, BT.cs_node, List.map_append, List.map_cons, zip_app _ _ _ _ h1.symm, Lf, Rt]
  exact weave_at _ _ _ _ _ (by rw [zip_len _ _ h1, List.length_map, h2])

theorem Rt_cons (h : Nat) (x : ByteArray) (K : List ByteArray) (y : Int) (V : List Int) (c : BT) (C : List BT) : Rt h (x :: K) (y :: V) (c :: C) = (x, y) :: (flat h c ++ Rt h K V C) := rfl
theorem Lf_cons (h : Nat) (x : ByteArray) (K : List ByteArray) (y : Int) (V : List Int) (c : BT) (C : List BT) : Lf h (x :: K) (y :: V) (c :: C) = flat h c ++ (x, y) :: Lf h K V C := rfl
theorem Lf_nil (h : Nat) : Lf h [] [] [] = [] := rfl
theorem Rt_nil (h : Nat) : Rt h [] [] [] = [] := rfl

theorem Lf_snoc (h : Nat) : ∀ (K : List ByteArray) (x : ByteArray) (V : List Int) (y : Int) (C : List BT) (c : BT), V.length = K.length → C.length = K.length → Lf h (K ++ [x]) (V ++ [y]) (C ++ [c]) = Lf h K V C ++ flat h c ++ [(x, y)]
  | [], _, [], _, [], _, _, _ => by simp [Lf, wl]
  | [], _, _ :: _, _, _, _, h, _ => by simp at h
  | [], _, [], _, _ :: _, _, _, h => by simp at h
  | _ :: _, _, [], _, _, _, h, _ => by simp at h
  | _ :: _, _, _ :: _, _, [], _, _, h => by simp at h
  | k :: K, x, v :: V, y, e :: C, c, h1, h2 => by
    rw [List.cons_append, List.cons_append, List.cons_append, Lf_cons, Lf_snoc h K x V y C c (by simpa using h1) (by simpa using h2), Lf_cons]
    simp

/-- Two nodes and the key between them. -/
theorem flat_join (h : Nat) (A1 A2 : List ByteArray) (B1 B2 : List Int) (D1 D2 : List BT) (x : ByteArray) (y : Int) (h1 : B1.length = A1.length) (h2 : h = 0 ∨ (D1.length = A1.length + 1 ∧ D2 ≠ [])) :
    flat h (.node (A1 ++ x :: A2) (B1 ++ y :: B2) (D1 ++ D2)) = flat h (.node A1 B1 D1) ++ (x, y) :: flat h (.node A2 B2 D2) := by
  cases h with
  | zero => simp [flat, zip_app _ _ _ _ h1.symm]
  | succ h =>
    obtain h | ⟨h3, h4⟩ := h2
    · cases h
    · simp only [flat, BT.ks_node, BT.vs_node, BT.cs_node, List.map_append, zip_app _ _ _ _ h1.symm, List.zip_cons_cons]
      exact weave_join _ _ _ _ _ (by rw [zip_len _ _ h1, List.length_map, h3]) (by cases D2 with | nil => exact (h4 rfl).elim | cons _ _ => simp)

/-- Ascending. -/
def Asc (l : List E) : Prop := l.Pairwise fun a b => kl a.1 b.1 = true
theorem Asc.left {a b : List E} (h : Asc (a ++ b)) : Asc a := (List.pairwise_append.1 h).1
theorem Asc.right {a b : List E} (h : Asc (a ++ b)) : Asc b := (List.pairwise_append.1 h).2.1
theorem Asc.across {a b : List E} (h : Asc (a ++ b)) : ∀ x ∈ a, ∀ y ∈ b, kl x.1 y.1 = true := (List.pairwise_append.1 h).2.2
theorem Asc.mk {a b : List E} (h1 : Asc a) (h2 : Asc b) (h : ∀ x ∈ a, ∀ y ∈ b, kl x.1 y.1 = true) : Asc (a ++ b) := List.pairwise_append.2 ⟨h1, h2, h⟩

/-- The keys of a node whose list ascends do so. -/
theorem wl_keys : ∀ (X : List E) (C : List (List E)), X.length = C.length → Asc (wl X C) → Asc X ∧ (∀ e ∈ wl X C, ∀ k : ByteArray, (∀ x ∈ X, kl x.1 k = true) → kl e.1 k = true) ∧ ∀ x ∈ X, x ∈ wl X C
  | [], [], _, _ => ⟨List.Pairwise.nil, fun e he => by simp [wl] at he, fun x hx => by simp at hx⟩
  | [], _ :: _, h, _ => by simp at h
  | _ :: _, [], h, _ => by simp at h
  | x :: X, c :: C, h, ha => by
    simp only [wl] at ha
    have h3 := List.pairwise_cons.1 ha.right
    obtain ⟨i1, i2, i3⟩ := wl_keys X C (by simpa using h) h3.2
    refine ⟨List.pairwise_cons.2 ⟨fun y hy => h3.1 y (i3 y hy), i1⟩, fun e he k hk => ?_, fun y hy => ?_⟩
    · simp only [wl, List.mem_append, List.mem_cons] at he
      rcases he with he | rfl | he
      · exact kl_trans (ha.across e he x (by simp)) (hk x (by simp))
      · exact hk _ (by simp)
      · exact i2 e he k fun x hx => hk x (by simp [hx])
    · simp only [List.mem_cons] at hy
      rcases hy with rfl | hy
      · simp [wl]
      · simp [wl, i3 y hy]
theorem tl_keys : ∀ (X : List E) (C : List (List E)), X.length = C.length → Asc (tl X C) → Asc X ∧ (∀ e ∈ tl X C, ∀ k : ByteArray, (∀ x ∈ X, kl k x.1 = true) → kl k e.1 = true) ∧ ∀ x ∈ X, x ∈ tl X C
  | [], [], _, _ => ⟨List.Pairwise.nil, fun e he => by simp [tl] at he, fun x hx => by simp at hx⟩
  | [], _ :: _, h, _ => by simp at h
  | _ :: _, [], h, _ => by simp at h
  | x :: X, c :: C, h, ha => by
    simp only [tl] at ha
    have h3 := List.pairwise_cons.1 ha
    obtain ⟨i1, i2, i3⟩ := tl_keys X C (by simpa using h) (Asc.right h3.2)
    refine ⟨List.pairwise_cons.2 ⟨fun y hy => h3.1 y (by simp [i3 y hy]), i1⟩, fun e he k hk => ?_, fun y hy => ?_⟩
    · simp only [tl, List.mem_append, List.mem_cons] at he
      rcases he with rfl | he | he
      · exact hk _ (by simp)
      · exact kl_trans (hk x (by simp)) (h3.1 e (by simp [he]))
      · exact i2 e he k fun x hx => hk x (by simp [hx])
    · simp only [List.mem_cons] at hy
      rcases hy with rfl | hy
      · simp [tl]
      · simp [tl, i3 y hy]

/-- Ascending keys. -/
def AscK (l : List ByteArray) : Prop := l.Pairwise fun a b => kl a b = true
theorem ascK_zip (K : List ByteArray) (V : List Int) (h : V.length = K.length) : Asc (K.zip V) ↔ AscK K := by
  unfold Asc AscK
  have := List.pairwise_map (f := (Prod.fst : E → ByteArray)) (R := fun x y => kl x y = true) (l := K.zip V)
  rw [List.map_fst_zip (by omega)] at this
  exact this.symm
theorem mem_zip_fst {K : List ByteArray} {V : List Int} (e : E) (h : e ∈ K.zip V) : e.1 ∈ K := (List.of_mem_zip (a := e.1) (b := e.2) h).1
theorem exists_zip {K : List ByteArray} {V : List Int} (h : V.length = K.length) (x : ByteArray) (hx : x ∈ K) : ∃ e ∈ K.zip V, e.1 = x := by
  have : x ∈ (K.zip V).map Prod.fst := by rw [List.map_fst_zip (by omega)]; exact hx
  obtain ⟨e, he, h⟩ := List.mem_map.1 this
  exact ⟨e, he, h⟩

theorem Lf_lt {h : Nat} {K : List ByteArray} {V : List Int} {C : List BT} (h1 : V.length = K.length) (h2 : C.length = K.length) (ha : Asc (Lf h K V C)) {k : ByteArray} (hk : ∀ x ∈ K, kl x k = true) : ∀ e ∈ Lf h K V C, kl e.1 k = true := fun e he =>
  (wl_keys _ _ (by rw [zip_len _ _ h1, List.length_map, h2]) ha).2.1 e he k fun x hx => hk _ (mem_zip_fst x hx)
theorem Rt_gt {h : Nat} {K : List ByteArray} {V : List Int} {C : List BT} (h1 : V.length = K.length) (h2 : C.length = K.length) (ha : Asc (Rt h K V C)) {k : ByteArray} (hk : ∀ x ∈ K, kl k x = true) : ∀ e ∈ Rt h K V C, kl k e.1 = true := fun e he =>
  (tl_keys _ _ (by rw [zip_len _ _ h1, List.length_map, h2]) ha).2.1 e he k fun x hx => hk _ (mem_zip_fst x hx)
theorem Lf_mem {h : Nat} {K : List ByteArray} {V : List Int} {C : List BT} (h1 : V.length = K.length) (h2 : C.length = K.length) (ha : Asc (Lf h K V C)) (x : ByteArray) (hx : x ∈ K) : ∃ e ∈ Lf h K V C, e.1 = x := by
  obtain ⟨e, he, h⟩ := exists_zip h1 x hx
  exact ⟨e, (wl_keys _ _ (by rw [zip_len _ _ h1, List.length_map, h2]) ha).2.2 e he, h⟩
theorem Rt_mem {h : Nat} {K : List ByteArray} {V : List Int} {C : List BT} (h1 : V.length = K.length) (h2 : C.length = K.length) (ha : Asc (Rt h K V C)) (x : ByteArray) (hx : x ∈ K) : ∃ e ∈ Rt h K V C, e.1 = x := by
  obtain ⟨e, he, h⟩ := exists_zip h1 x hx
  exact ⟨e, (tl_keys _ _ (by rw [zip_len _ _ h1, List.length_map, h2]) ha).2.2 e he, h⟩

/-- The keys of a node ascend. -/
theorem keys_asc {d h : Nat} {t : BT} (hs : Shape d h t) (ha : Asc (flat h t)) : AscK t.ks := by
  cases h with
  | zero => exact (ascK_zip _ _ hs.1).1 ha
  | succ h =>
    obtain ⟨h1, h2, h3, -⟩ := hs
    cases hc : t.cs with
    | nil => rw [hc] at h3; simp at h3
    | cons c C =>
      have e : flat (h + 1) t = flat h c ++ Rt h t.ks t.vs C := by
        have := flat_at h [] t.ks [] t.vs [] C c rfl rfl
        rw [List.nil_append, List.nil_append, List.nil_append, ← hc, BT.eta, Lf_nil] at this
        exact this
      rw [e] at ha
      exact (ascK_zip _ _ h1).1 (tl_keys _ _ (by rw [zip_len _ _ h1, List.length_map]; rw [hc] at h3; simpa using h3.symm) ha.right).1

/-- Where a key is or belongs. -/
theorem place (k : ByteArray) : ∀ ks : List ByteArray, AscK ks → ∃ K1 K2, ks = K1 ++ K2 ∧ (∀ x ∈ K1, kl x k = true) ∧ ((∃ K3, K2 = k :: K3 ∧ ∀ x ∈ K3, kl k x = true) ∨ ∀ x ∈ K2, kl k x = true)
  | [], _ => ⟨[], [], rfl, by simp, .inr (by simp)⟩
  | x :: ks, h => by
    have h2 := List.pairwise_cons.1 h
    cases hx : kl x k
    · by_cases he : x = k
      · subst he
        exact ⟨[], x :: ks, rfl, by simp, .inl ⟨ks, rfl, h2.1⟩⟩
      · have hk : kl k x = true := by
          cases hkx : kl k x
          · exact (he (kl_tri hx hkx)).elim
          · rfl
        refine ⟨[], x :: ks, rfl, by simp, .inr fun y hy => ?_⟩
        rcases List.mem_cons.1 hy with rfl | hy
        · exact hk
        · exact kl_trans hk (h2.1 y hy)
    · obtain ⟨K1, K2, rfl, h3, h4⟩ := place k ks h2.2
      exact ⟨x :: K1, K2, rfl, fun y hy => (List.mem_cons.1 hy).elim (fun e => e ▸ hx) (h3 y), h4⟩

/-- What a list of keys and values does on calls. -/
def getM (k : ByteArray) (l : List E) : Option Int := (l.find? fun e => decide (e.1 = k)).map Prod.snd
def delM (k : ByteArray) (l : List E) : List E := l.filter fun e => decide (e.1 ≠ k)
def insM (k : ByteArray) (v : Int) : List E → List E
  | [] => [(k, v)]
  | e :: l => if kl e.1 k then e :: insM k v l else if e.1 = k then (k, v) :: l else (k, v) :: e :: l

theorem getM_lt {k : ByteArray} {A : List E} (h : ∀ e ∈ A, kl e.1 k = true) (l : List E) : getM k (A ++ l) = getM k l := by
  unfold getM
  rw [List.find?_append, List.find?_eq_none.2 fun e he => by simpa using kl_ne (h e he), Option.none_or]
theorem getM_gt {k : ByteArray} {B : List E} (h : ∀ e ∈ B, kl k e.1 = true) (l : List E) : getM k (l ++ B) = getM k l := by
  unfold getM
  rw [List.find?_append, (List.find?_eq_none (l := B)).2 fun e he => by simpa using (kl_ne (h e he)).symm, Option.or_none]
theorem delM_lt {k : ByteArray} {A : List E} (h : ∀ e ∈ A, kl e.1 k = true) (l : List E) : delM k (A ++ l) = A ++ delM k l := by
  unfold delM
  rw [List.filter_append, List.filter_eq_self.2 fun e he => by simpa using kl_ne (h e he)]
theorem delM_gt {k : ByteArray} {B : List E} (h : ∀ e ∈ B, kl k e.1 = true) (l : List E) : delM k (l ++ B) = delM k l ++ B := by
  unfold delM
  rw [List.filter_append, (List.filter_eq_self (l := B)).2 fun e he => by simpa using (kl_ne (h e he)).symm]
theorem insM_lt {k : ByteArray} {v : Int} : ∀ {A : List E}, (∀ e ∈ A, kl e.1 k = true) → ∀ l : List E, insM k v (A ++ l) = A ++ insM k v l
  | [], _, _ => rfl
  | e :: A, h, l => by rw [List.cons_append, insM, if_pos (h e (by simp)), insM_lt (fun x hx => h x (by simp [hx])), List.cons_append]
theorem insM_gt {k : ByteArray} {v : Int} {B : List E} (h : ∀ e ∈ B, kl k e.1 = true) : ∀ l : List E, insM k v (l ++ B) = insM k v l ++ B
  | [] => by
    cases B with
    | nil => rfl
    | cons e B =>
      have := h e (by simp)
      show insM k v (e :: B) = (k, v) :: e :: B
      rw [insM, kl_asymm this, if_neg (by simp), if_neg (kl_ne this).symm]
  | e :: l => by
    rw [List.cons_append, insM, insM]
    split
    · rw [insM_gt h l, List.cons_append]
    · split <;> rfl

theorem getM_hit (k : ByteArray) (y : Int) (B : List E) : getM k ((k, y) :: B) = some y := by simp [getM]
theorem insM_hit (k : ByteArray) (v y : Int) (B : List E) : insM k v ((k, y) :: B) = (k, v) :: B := by simp [insM, kl_irrefl]
theorem delM_hit (k : ByteArray) (y : Int) {B : List E} (h : ∀ e ∈ B, kl k e.1 = true) : delM k ((k, y) :: B) = B := by
  have := delM_gt h [(k, y)]
  rw [List.singleton_append] at this
  rw [this]; simp [delM]

theorem cut {α : Type} (l : List α) (n : Nat) (h : n ≤ l.length) : ∃ a b, l = a ++ b ∧ a.length = n := ⟨l.take n, l.drop n, (List.take_append_drop n l).symm, by simp; omega⟩
theorem cut1 {α : Type} (l : List α) (n : Nat) (h : n < l.length) : ∃ a x b, l = a ++ x :: b ∧ a.length = n := ⟨l.take n, l[n], l.drop (n + 1), by rw [← List.drop_eq_getElem_cons h, List.take_append_drop], by simp; omega⟩
theorem cut_last {α : Type} (l : List α) (h : 0 < l.length) : ∃ a x, l = a ++ [x] := by
  obtain ⟨a, x, b, e, hn⟩ := cut1 l (l.length - 1) (by omega)
  cases b with
  | nil => exact ⟨a, x, e⟩
  | cons _ _ => rw [e] at hn; simp at hn

theorem insM_asc (k : ByteArray) (v : Int) : ∀ l : List E, Asc l → Asc (insM k v l) ∧ ∀ e ∈ insM k v l, e.1 = k ∨ e ∈ l
  | [], _ => ⟨by simp [insM, Asc], fun e he => by simp [insM] at he; simp [he]⟩
  | e :: l, h => by
    have h2 := List.pairwise_cons.1 h
    obtain ⟨i1, i2⟩ := insM_asc k v l h2.2
    rw [insM]
    split
    · rename_i hk
      refine ⟨List.pairwise_cons.2 ⟨fun y hy => ?_, i1⟩, fun x hx => ?_⟩
      · rcases i2 y hy with h | h
        · rw [h]; exact hk
        · exact h2.1 y h
      · rcases List.mem_cons.1 hx with rfl | hx
        · simp
        · rcases i2 x hx with h | h
          · exact .inl h
          · simp [h]
    · rename_i hk
      split
      · rename_i he
        subst he
        exact ⟨List.pairwise_cons.2 ⟨h2.1, h2.2⟩, fun x hx => by rcases List.mem_cons.1 hx with rfl | hx <;> simp_all⟩
      · rename_i he
        have hke : kl k e.1 = true := by
          cases hkx : kl k e.1
          · exact (he (kl_tri (by simpa using hk) hkx)).elim
          · rfl
        refine ⟨List.pairwise_cons.2 ⟨fun y hy => ?_, h⟩, fun x hx => by rcases List.mem_cons.1 hx with rfl | hx <;> simp_all⟩
        rcases List.mem_cons.1 hy with rfl | hy
        · exact hke
        · exact kl_trans hke (h2.1 y hy)
theorem delM_asc (k : ByteArray) (l : List E) (h : Asc l) : Asc (delM k l) := h.filter _
end Go.Proofs.Ytamnmoejjjaegaa
