/-
  plan.list over the mapper's closures.
  Plain data: what a mapper makes of a node, put together from its slices; what is visited in a node.
-/
import Derived.Test.YthijagpnpcpcbaaGreatQGtP
import Derived.Test.YthijagpnpcpcbaaGreatQGtLb
namespace Go.Proofs.YthijagpnpcpcbaaGreat
open Go.RowKit Go.Sort
/-- What is visited in a list. -/
def VL (m : Cm) (t : Uy) (d : Int) (l : List DT) (v : Int × DT) : Prop := ∃ (q : Nat) (x : DT), l[q]? = some x ∧ Vs m t d x v
/-- What a list of a node's parts comes to. -/
def MLPost {σ : Type} (M : Mpr σ) (t : Uy) (d : Int) (l : List DT) (s : σ) (w : World) (e : Ending) (w' : World) : Prop :=
  ∃ (A : Option Addr) (ys : List DT) (s' : σ), e = .returned (.slice A l.length l.length) ∧ Fr M.C s w s' w' ∧ M.vst s s' (nL l) (VL M.m t d l) ∧ LR M.C w.heap.size s' w' t (Mp M.m t d) l A ys
theorem Bk.no {σ : Type} {C : Cl σ} {s s' : σ} {W W' : World} {b : Nat} {cs : List Value} {T : TypeId} (h : Bk W b cs T) (ho : ¬ C.O s b) (hf : Fr C s W s' W') : ¬ C.O s' b := fun e => by
  have := h.lt
  rcases hf.own b e with e | e
  · exact ho e
  · omega
theorem nL_take_succ {l : List DT} {j : Nat} {x : DT} (hx : l[j]? = some x) : nL (l.take (j + 1)) = nL (l.take j) + x.n := by
  rw [List.take_add_one, hx, nL_append]
  show _ + nL [x] = _
  rw [nL_cons]
  rfl
theorem nL_take_le (l : List DT) (j : Nat) : nL (l.take j) ≤ nL l := by
  have := nL_append (l.take j) (l.drop j)
  rw [List.take_append_drop] at this
  omega
theorem mlistExp (N f : Nat) (δ : Int) (hf : HC f .expr N δ) (eg : ∀ args w, (callFunc f args).run Tryz.prog w = .ok (.enter f args) w) {σ : Type} (M : Mpr σ) (l : List DT) (A : Option Addr) (cap : Nat) (d dd : Int) (s : σ) (w : World) (b3 b5 : Nat)
    (hdd : dd = d + δ) (hn : nL l < N) (hd : 0 ≤ d) (hd0 : 0 ≤ dd) (hd2 : dd + nL l ≤ 1048576) (hst : M.C.St s w) (hl : DRow (fun k => k < M.C.B) w 14 A cap l) (hin : ∀ x, x ∈ l → UIn (fun k => k < M.C.B) w .expr x)
    (hb3 : Bk w b3 [M.v] 73) (hb5 : Bk w b5 [.int .i64 d] 3) (ho3 : ¬ M.C.O s b3) (ho5 : ¬ M.C.O s b5) (hcn : M.cnt s + nL l ≤ 1048576) :
    Calls Tryz.prog 20 #[.slice A l.length cap, .func (.func f) #[] #[.pointer (some ⟨b3, 0, none⟩), .pointer (some ⟨b5, 0, none⟩)]] w (MLPost M .expr dd l s w) := by
  have hB := M.C.base s w hst
  have hln := len_nL l
  refine (listExp_any M.C (fun j s' => M.vst s s' (nL (l.take j)) fun v => ∃ (i : Nat) (x : DT), i < j ∧ l[i]? = some x ∧ Vs M.m .expr dd x v) (Mp M.m .expr dd) f #[.pointer (some ⟨b3, 0, none⟩), .pointer (some ⟨b5, 0, none⟩)] eg l A cap (fun k => k < M.C.B) s w
    (Mpr.vst.no fun v h => by obtain ⟨_, _, h, _⟩ := h; omega) hst (fun k hk => ⟨by omega, fun e => absurd (M.C.ob s k e) (by omega)⟩) hl hin (by omega) fun j x s1 W hx hq hfr => ?_).mono ?_
  · have hxn := n_mem (mem_of_get? hx)
    refine (hf σ M x d dd s1 W b3 b5 hdd (by omega) hd hd0 (by omega) hfr.st ((hin x (mem_of_get? hx)).keep (hfr.src hst) fun _ h => h) (hb3.fr hfr ho3) (hb5.fr hfr ho5) (hb3.no ho3 hfr) (hb5.no ho5 hfr) (by have h1 := hq.2; have h2 := nL_take_succ hx; have h3 := nL_take_le l (j + 1); omega)).mono ?_
    rintro e W1 ⟨y, s', rfl, h1, h2, h3, h4⟩
    refine ⟨y, s', rfl, h1, (hq.tr h2).to (Nat.le_of_eq (nL_take_succ hx).symm) fun v => ?_, h3, h4⟩
    constructor
    · rintro (⟨i, x', hi, hx', hv⟩ | hv)
      · exact ⟨i, x', by omega, hx', hv⟩
      · exact ⟨j, x, by omega, hx, hv⟩
    · rintro ⟨i, x', hi, hx', hv⟩
      by_cases hij : i = j
      · subst hij
        rw [hx] at hx'
        cases hx'
        exact .inr hv
      · exact .inl ⟨i, x', by omega, hx', hv⟩
  · rintro e w' hp
    obtain ⟨A2, ys, s', rfl, h1, h2, h3⟩ := hp.lr
    refine ⟨A2, ys, s', rfl, h1, h2.to (by rw [List.take_length]; exact Nat.le_refl _) fun v => ?_, h3⟩
    constructor
    · rintro ⟨i, x, _, hx, hv⟩
      exact ⟨i, x, hx, hv⟩
    · rintro ⟨i, x, hx, hv⟩
      exact ⟨i, x, (List.getElem?_eq_some_iff.1 hx).1, hx, hv⟩
theorem mlistRel (N f : Nat) (δ : Int) (hf : HC f .rel N δ) (eg : ∀ args w, (callFunc f args).run Tryz.prog w = .ok (.enter f args) w) {σ : Type} (M : Mpr σ) (l : List DT) (A : Option Addr) (cap : Nat) (d dd : Int) (s : σ) (w : World) (b3 b5 : Nat)
    (hdd : dd = d + δ) (hn : nL l < N) (hd : 0 ≤ d) (hd0 : 0 ≤ dd) (hd2 : dd + nL l ≤ 1048576) (hst : M.C.St s w) (hl : DRow (fun k => k < M.C.B) w 14 A cap l) (hin : ∀ x, x ∈ l → UIn (fun k => k < M.C.B) w .rel x)
    (hb3 : Bk w b3 [M.v] 73) (hb5 : Bk w b5 [.int .i64 d] 3) (ho3 : ¬ M.C.O s b3) (ho5 : ¬ M.C.O s b5) (hcn : M.cnt s + nL l ≤ 1048576) :
    Calls Tryz.prog 61 #[.slice A l.length cap, .func (.func f) #[] #[.pointer (some ⟨b3, 0, none⟩), .pointer (some ⟨b5, 0, none⟩)]] w (MLPost M .rel dd l s w) := by
  have hB := M.C.base s w hst
  have hln := len_nL l
  refine (listRel_any M.C (fun j s' => M.vst s s' (nL (l.take j)) fun v => ∃ (i : Nat) (x : DT), i < j ∧ l[i]? = some x ∧ Vs M.m .rel dd x v) (Mp M.m .rel dd) f #[.pointer (some ⟨b3, 0, none⟩), .pointer (some ⟨b5, 0, none⟩)] eg l A cap (fun k => k < M.C.B) s w
    (Mpr.vst.no fun v h => by obtain ⟨_, _, h, _⟩ := h; omega) hst (fun k hk => ⟨by omega, fun e => absurd (M.C.ob s k e) (by omega)⟩) hl hin (by omega) fun j x s1 W hx hq hfr => ?_).mono ?_
  · have hxn := n_mem (mem_of_get? hx)
    refine (hf σ M x d dd s1 W b3 b5 hdd (by omega) hd hd0 (by omega) hfr.st ((hin x (mem_of_get? hx)).keep (hfr.src hst) fun _ h => h) (hb3.fr hfr ho3) (hb5.fr hfr ho5) (hb3.no ho3 hfr) (hb5.no ho5 hfr) (by have h1 := hq.2; have h2 := nL_take_succ hx; have h3 := nL_take_le l (j + 1); omega)).mono ?_
    rintro e W1 ⟨y, s', rfl, h1, h2, h3, h4⟩
    refine ⟨y, s', rfl, h1, (hq.tr h2).to (Nat.le_of_eq (nL_take_succ hx).symm) fun v => ?_, h3, h4⟩
    constructor
    · rintro (⟨i, x', hi, hx', hv⟩ | hv)
      · exact ⟨i, x', by omega, hx', hv⟩
      · exact ⟨j, x, by omega, hx, hv⟩
    · rintro ⟨i, x', hi, hx', hv⟩
      by_cases hij : i = j
      · subst hij
        rw [hx] at hx'
        cases hx'
        exact .inr hv
      · exact .inl ⟨i, x', by omega, hx', hv⟩
  · rintro e w' hp
    obtain ⟨A2, ys, s', rfl, h1, h2, h3⟩ := hp.lr
    refine ⟨A2, ys, s', rfl, h1, h2.to (by rw [List.take_length]; exact Nat.le_refl _) fun v => ?_, h3⟩
    constructor
    · rintro ⟨i, x, _, hx, hv⟩
      exact ⟨i, x, hx, hv⟩
    · rintro ⟨i, x, hx, hv⟩
      exact ⟨i, x, (List.getElem?_eq_some_iff.1 hx).1, hx, hv⟩
theorem mlistAgg (N f : Nat) (δ : Int) (hf : HC f .agg N δ) (eg : ∀ args w, (callFunc f args).run Tryz.prog w = .ok (.enter f args) w) {σ : Type} (M : Mpr σ) (l : List DT) (A : Option Addr) (cap : Nat) (d dd : Int) (s : σ) (w : World) (b3 b5 : Nat)
    (hdd : dd = d + δ) (hn : nL l < N) (hd : 0 ≤ d) (hd0 : 0 ≤ dd) (hd2 : dd + nL l ≤ 1048576) (hst : M.C.St s w) (hl : DRow (fun k => k < M.C.B) w 5 A cap l) (hin : ∀ x, x ∈ l → UIn (fun k => k < M.C.B) w .agg x)
    (hb3 : Bk w b3 [M.v] 73) (hb5 : Bk w b5 [.int .i64 d] 3) (ho3 : ¬ M.C.O s b3) (ho5 : ¬ M.C.O s b5) (hcn : M.cnt s + nL l ≤ 1048576) :
    Calls Tryz.prog 107 #[.slice A l.length cap, .func (.func f) #[] #[.pointer (some ⟨b3, 0, none⟩), .pointer (some ⟨b5, 0, none⟩)]] w (MLPost M .agg dd l s w) := by
  have hB := M.C.base s w hst
  have hln := len_nL l
  refine (listAgg_any M.C (fun j s' => M.vst s s' (nL (l.take j)) fun v => ∃ (i : Nat) (x : DT), i < j ∧ l[i]? = some x ∧ Vs M.m .agg dd x v) (Mp M.m .agg dd) f #[.pointer (some ⟨b3, 0, none⟩), .pointer (some ⟨b5, 0, none⟩)] eg l A cap (fun k => k < M.C.B) s w
    (Mpr.vst.no fun v h => by obtain ⟨_, _, h, _⟩ := h; omega) hst (fun k hk => ⟨by omega, fun e => absurd (M.C.ob s k e) (by omega)⟩) hl hin (by omega) fun j x s1 W hx hq hfr => ?_).mono ?_
  · have hxn := n_mem (mem_of_get? hx)
    refine (hf σ M x d dd s1 W b3 b5 hdd (by omega) hd hd0 (by omega) hfr.st ((hin x (mem_of_get? hx)).keep (hfr.src hst) fun _ h => h) (hb3.fr hfr ho3) (hb5.fr hfr ho5) (hb3.no ho3 hfr) (hb5.no ho5 hfr) (by have h1 := hq.2; have h2 := nL_take_succ hx; have h3 := nL_take_le l (j + 1); omega)).mono ?_
    rintro e W1 ⟨y, s', rfl, h1, h2, h3, h4⟩
    refine ⟨y, s', rfl, h1, (hq.tr h2).to (Nat.le_of_eq (nL_take_succ hx).symm) fun v => ?_, h3, h4⟩
    constructor
    · rintro (⟨i, x', hi, hx', hv⟩ | hv)
      · exact ⟨i, x', by omega, hx', hv⟩
      · exact ⟨j, x, by omega, hx, hv⟩
    · rintro ⟨i, x', hi, hx', hv⟩
      by_cases hij : i = j
      · subst hij
        rw [hx] at hx'
        cases hx'
        exact .inr hv
      · exact .inl ⟨i, x', by omega, hx', hv⟩
  · rintro e w' hp
    obtain ⟨A2, ys, s', rfl, h1, h2, h3⟩ := hp.lr
    refine ⟨A2, ys, s', rfl, h1, h2.to (by rw [List.take_length]; exact Nat.le_refl _) fun v => ?_, h3⟩
    constructor
    · rintro ⟨i, x, _, hx, hv⟩
      exact ⟨i, x, hx, hv⟩
    · rintro ⟨i, x, hx, hv⟩
      exact ⟨i, x, (List.getElem?_eq_some_iff.1 hx).1, hx, hv⟩
theorem mlistWin (N f : Nat) (δ : Int) (hf : HC f .win N δ) (eg : ∀ args w, (callFunc f args).run Tryz.prog w = .ok (.enter f args) w) {σ : Type} (M : Mpr σ) (l : List DT) (A : Option Addr) (cap : Nat) (d dd : Int) (s : σ) (w : World) (b3 b5 : Nat)
    (hdd : dd = d + δ) (hn : nL l < N) (hd : 0 ≤ d) (hd0 : 0 ≤ dd) (hd2 : dd + nL l ≤ 1048576) (hst : M.C.St s w) (hl : DRow (fun k => k < M.C.B) w 12 A cap l) (hin : ∀ x, x ∈ l → UIn (fun k => k < M.C.B) w .win x)
    (hb3 : Bk w b3 [M.v] 73) (hb5 : Bk w b5 [.int .i64 d] 3) (ho3 : ¬ M.C.O s b3) (ho5 : ¬ M.C.O s b5) (hcn : M.cnt s + nL l ≤ 1048576) :
    Calls Tryz.prog 110 #[.slice A l.length cap, .func (.func f) #[] #[.pointer (some ⟨b3, 0, none⟩), .pointer (some ⟨b5, 0, none⟩)]] w (MLPost M .win dd l s w) := by
  have hB := M.C.base s w hst
  have hln := len_nL l
  refine (listWin_any M.C (fun j s' => M.vst s s' (nL (l.take j)) fun v => ∃ (i : Nat) (x : DT), i < j ∧ l[i]? = some x ∧ Vs M.m .win dd x v) (Mp M.m .win dd) f #[.pointer (some ⟨b3, 0, none⟩), .pointer (some ⟨b5, 0, none⟩)] eg l A cap (fun k => k < M.C.B) s w
    (Mpr.vst.no fun v h => by obtain ⟨_, _, h, _⟩ := h; omega) hst (fun k hk => ⟨by omega, fun e => absurd (M.C.ob s k e) (by omega)⟩) hl hin (by omega) fun j x s1 W hx hq hfr => ?_).mono ?_
  · have hxn := n_mem (mem_of_get? hx)
    refine (hf σ M x d dd s1 W b3 b5 hdd (by omega) hd hd0 (by omega) hfr.st ((hin x (mem_of_get? hx)).keep (hfr.src hst) fun _ h => h) (hb3.fr hfr ho3) (hb5.fr hfr ho5) (hb3.no ho3 hfr) (hb5.no ho5 hfr) (by have h1 := hq.2; have h2 := nL_take_succ hx; have h3 := nL_take_le l (j + 1); omega)).mono ?_
    rintro e W1 ⟨y, s', rfl, h1, h2, h3, h4⟩
    refine ⟨y, s', rfl, h1, (hq.tr h2).to (Nat.le_of_eq (nL_take_succ hx).symm) fun v => ?_, h3, h4⟩
    constructor
    · rintro (⟨i, x', hi, hx', hv⟩ | hv)
      · exact ⟨i, x', by omega, hx', hv⟩
      · exact ⟨j, x, by omega, hx, hv⟩
    · rintro ⟨i, x', hi, hx', hv⟩
      by_cases hij : i = j
      · subst hij
        rw [hx] at hx'
        cases hx'
        exact .inr hv
      · exact .inl ⟨i, x', by omega, hx', hv⟩
  · rintro e w' hp
    obtain ⟨A2, ys, s', rfl, h1, h2, h3⟩ := hp.lr
    refine ⟨A2, ys, s', rfl, h1, h2.to (by rw [List.take_length]; exact Nat.le_refl _) fun v => ?_, h3⟩
    constructor
    · rintro ⟨i, x, _, hx, hv⟩
      exact ⟨i, x, hx, hv⟩
    · rintro ⟨i, x, hx, hv⟩
      exact ⟨i, x, (List.getElem?_eq_some_iff.1 hx).1, hx, hv⟩
theorem mlistKey (N f : Nat) (δ : Int) (hf : HC f .key N δ) (eg : ∀ args w, (callFunc f args).run Tryz.prog w = .ok (.enter f args) w) {σ : Type} (M : Mpr σ) (l : List DT) (A : Option Addr) (cap : Nat) (d dd : Int) (s : σ) (w : World) (b3 b5 : Nat)
    (hdd : dd = d + δ) (hn : nL l < N) (hd : 0 ≤ d) (hd0 : 0 ≤ dd) (hd2 : dd + nL l ≤ 1048576) (hst : M.C.St s w) (hl : DRow (fun k => k < M.C.B) w 16 A cap l) (hin : ∀ x, x ∈ l → UIn (fun k => k < M.C.B) w .key x)
    (hb3 : Bk w b3 [M.v] 73) (hb5 : Bk w b5 [.int .i64 d] 3) (ho3 : ¬ M.C.O s b3) (ho5 : ¬ M.C.O s b5) (hcn : M.cnt s + nL l ≤ 1048576) :
    Calls Tryz.prog 113 #[.slice A l.length cap, .func (.func f) #[] #[.pointer (some ⟨b3, 0, none⟩), .pointer (some ⟨b5, 0, none⟩)]] w (MLPost M .key dd l s w) := by
  have hB := M.C.base s w hst
  have hln := len_nL l
  refine (listKey_any M.C (fun j s' => M.vst s s' (nL (l.take j)) fun v => ∃ (i : Nat) (x : DT), i < j ∧ l[i]? = some x ∧ Vs M.m .key dd x v) (Mp M.m .key dd) f #[.pointer (some ⟨b3, 0, none⟩), .pointer (some ⟨b5, 0, none⟩)] eg l A cap (fun k => k < M.C.B) s w
    (Mpr.vst.no fun v h => by obtain ⟨_, _, h, _⟩ := h; omega) hst (fun k hk => ⟨by omega, fun e => absurd (M.C.ob s k e) (by omega)⟩) hl hin (by omega) fun j x s1 W hx hq hfr => ?_).mono ?_
  · have hxn := n_mem (mem_of_get? hx)
    refine (hf σ M x d dd s1 W b3 b5 hdd (by omega) hd hd0 (by omega) hfr.st ((hin x (mem_of_get? hx)).keep (hfr.src hst) fun _ h => h) (hb3.fr hfr ho3) (hb5.fr hfr ho5) (hb3.no ho3 hfr) (hb5.no ho5 hfr) (by have h1 := hq.2; have h2 := nL_take_succ hx; have h3 := nL_take_le l (j + 1); omega)).mono ?_
    rintro e W1 ⟨y, s', rfl, h1, h2, h3, h4⟩
    refine ⟨y, s', rfl, h1, (hq.tr h2).to (Nat.le_of_eq (nL_take_succ hx).symm) fun v => ?_, h3, h4⟩
    constructor
    · rintro (⟨i, x', hi, hx', hv⟩ | hv)
      · exact ⟨i, x', by omega, hx', hv⟩
      · exact ⟨j, x, by omega, hx, hv⟩
    · rintro ⟨i, x', hi, hx', hv⟩
      by_cases hij : i = j
      · subst hij
        rw [hx] at hx'
        cases hx'
        exact .inr hv
      · exact .inl ⟨i, x', by omega, hx', hv⟩
  · rintro e w' hp
    obtain ⟨A2, ys, s', rfl, h1, h2, h3⟩ := hp.lr
    refine ⟨A2, ys, s', rfl, h1, h2.to (by rw [List.take_length]; exact Nat.le_refl _) fun v => ?_, h3⟩
    constructor
    · rintro ⟨i, x, _, hx, hv⟩
      exact ⟨i, x, hx, hv⟩
    · rintro ⟨i, x, hx, hv⟩
      exact ⟨i, x, (List.getElem?_eq_some_iff.1 hx).1, hx, hv⟩
end Go.Proofs.YthijagpnpcpcbaaGreat
namespace Go.Proofs.YthijagpnpcpcbaaGreat
open Go.RowKit Go.Sort
/-- Two lists, one made of the other. -/
def ML (m : Cm) (s : Uy) (dq : Nat → Int) (a b : List DT) : Prop := a.length = b.length ∧ ∀ (q : Nat) (x y : DT), a[q]? = some x → b[q]? = some y → Mp m s (dq q) x y
theorem Mp.mkK {m : Cm} {t : Uy} {d : Int} {c c1 c' : List Value} {k k' : List (List DT)} (hp : Pre m t d c k c1) (hc : c1.length = c'.length) (he : ∀ j, (∀ s, (j, s) ∉ t.sl) → c1[j]? = c'[j]?)
    (h : KS (fun i s a b => ML m s (fun q => dep t c i q d) a b) 0 t.sl k k') : Mp m t d (.node c k) (.node c' k') := by
  have hl := h.len
  refine .node t d c c1 c' k k' hp hc he hl.2 (fun i a b ha hb => ?_) fun i o s a b hs ha hb q x y hx hy => ?_
  · have hi : i < t.sl.length := by rw [← hl.1]; exact (List.getElem?_eq_some_iff.1 ha).1
    exact (h.get i _ _ a b (List.getElem?_eq_getElem hi) ha hb).1
  · have := (h.get i o s a b hs ha hb).2 q x y hx hy
    rwa [Nat.zero_add] at this
theorem LR.ml {σ : Type} {C : Cl σ} {b0 : Nat} {s : σ} {W : World} {t : Uy} {m : Cm} {d : Int} {l ys : List DT} {A : Option Addr} (h : LR C b0 s W t (Mp m t d) l A ys) : ML m t (fun _ => d) l ys := ⟨h.len.symm, fun q x y hx hy => h.rel q x y hx hy⟩
theorem ML.of_usl {m : Cm} {t : Uy} {dq : Nat → Int} {l ys : List DT} (ht : t.flat = true) (h : USL t l ys) : ML m t dq l ys := ⟨h.1, fun q x y hx hy => Mp.of_sm (h.2 q x y hx hy) _ ht⟩
theorem VL.flat {m : Cm} {t : Uy} {d : Int} {l : List DT} {v : Int × DT} (ht : t.flat = true) (h : VL m t d l v) : False := by
  obtain ⟨_, _, _, h⟩ := h
  rw [h.flat] at ht
  cases ht
theorem VL.nil {m : Cm} {t : Uy} {d : Int} {v : Int × DT} (h : VL m t d [] v) : False := by
  obtain ⟨_, _, h, _⟩ := h
  simp at h
theorem Vs.ag {m : Cm} {d : Int} {c : List Value} {l l2 : List DT} {v : Int × DT} : Vs m .agg d (.node c [l, l2]) v ↔ VL m .expr d l v ∨ VL m .expr d l2 v := by
  constructor
  · intro h
    cases h with
    | kid _ _ _ _ i o s a q x _ hk hr he hs hl hx h =>
      match i with
      | 0 => simp [Uy.sl] at hs hl; obtain ⟨rfl, rfl⟩ := hs; subst hl; exact .inl ⟨q, x, hx, h⟩
      | 1 => simp [Uy.sl] at hs hl; obtain ⟨rfl, rfl⟩ := hs; subst hl; exact .inr ⟨q, x, hx, h⟩
      | i + 2 => simp [Uy.sl] at hs
  · rintro (⟨q, x, hx, h⟩ | ⟨q, x, hx, h⟩)
    · exact .kid .agg d c _ 0 3 .expr l q x v (fun h => by cases h) (fun h => by cases h) (fun h => by cases h) rfl rfl hx h
    · exact .kid .agg d c _ 1 4 .expr l2 q x v (fun h => by cases h) (fun h => by cases h) (fun h => by cases h) rfl rfl hx h
theorem Vs.wi {m : Cm} {d : Int} {c : List Value} {az gz pz kz tz : List DT} {v : Int × DT} : Vs m .win d (.node c [az, gz, pz, kz, tz]) v ↔ VL m .expr d az v ∨ VL m .agg d gz v ∨ VL m .expr d pz v ∨ VL m .key d kz v ∨ VL m .key d tz v := by
  constructor
  · intro h
    cases h with
    | kid _ _ _ _ i o s a q x _ hk hr he hs hl hx h =>
      match i with
      | 0 => simp [Uy.sl] at hs hl; obtain ⟨rfl, rfl⟩ := hs; subst hl; exact .inl ⟨q, x, hx, h⟩
      | 1 => simp [Uy.sl] at hs hl; obtain ⟨rfl, rfl⟩ := hs; subst hl; exact .inr (.inl ⟨q, x, hx, h⟩)
      | 2 => simp [Uy.sl] at hs hl; obtain ⟨rfl, rfl⟩ := hs; subst hl; exact .inr (.inr (.inl ⟨q, x, hx, h⟩))
      | 3 => simp [Uy.sl] at hs hl; obtain ⟨rfl, rfl⟩ := hs; subst hl; exact .inr (.inr (.inr (.inl ⟨q, x, hx, h⟩)))
      | 4 => simp [Uy.sl] at hs hl; obtain ⟨rfl, rfl⟩ := hs; subst hl; exact .inr (.inr (.inr (.inr ⟨q, x, hx, h⟩)))
      | i + 5 => simp [Uy.sl] at hs
  · rintro (⟨q, x, hx, h⟩ | ⟨q, x, hx, h⟩ | ⟨q, x, hx, h⟩ | ⟨q, x, hx, h⟩ | ⟨q, x, hx, h⟩)
    · exact .kid .win d c _ 0 2 .expr az q x v (fun h => by cases h) (fun h => by cases h) (fun h => by cases h) rfl rfl hx h
    · exact .kid .win d c _ 1 3 .agg gz q x v (fun h => by cases h) (fun h => by cases h) (fun h => by cases h) rfl rfl hx h
    · exact .kid .win d c _ 2 4 .expr pz q x v (fun h => by cases h) (fun h => by cases h) (fun h => by cases h) rfl rfl hx h
    · exact .kid .win d c _ 3 5 .key kz q x v (fun h => by cases h) (fun h => by cases h) (fun h => by cases h) rfl rfl hx h
    · exact .kid .win d c _ 4 6 .key tz q x v (fun h => by cases h) (fun h => by cases h) (fun h => by cases h) rfl rfl hx h
theorem Vs.ex {m : Cm} {d : Int} {c : List Value} {fz vz az sz : List DT} {v : Int × DT} : Vs m .expr d (.node c [fz, vz, az, sz]) v ↔ (kd c = 2 ∧ v = (d, .node c [fz, vz, az, sz])) ∨ ((kd c = 2 → m.dn d (.node c [fz, vz, az, sz]) = false) ∧ (VL m .expr d az v ∨ VL m .rel (d + 1) sz v)) := by
  constructor
  · intro h
    cases h with
    | here _ _ h => exact .inl ⟨h, rfl⟩
    | kid _ _ _ _ i o s a q x _ hk hr he hs hl hx h =>
      refine .inr ⟨he rfl, ?_⟩
      match i with
      | 0 => simp [Uy.sl] at hs hl; obtain ⟨rfl, rfl⟩ := hs; exact absurd h.flat (by decide)
      | 1 => simp [Uy.sl] at hs hl; obtain ⟨rfl, rfl⟩ := hs; exact absurd h.flat (by decide)
      | 2 => simp [Uy.sl] at hs hl; obtain ⟨rfl, rfl⟩ := hs; subst hl; exact .inl ⟨q, x, hx, h⟩
      | 3 => simp [Uy.sl] at hs hl; obtain ⟨rfl, rfl⟩ := hs; subst hl; exact .inr ⟨q, x, hx, h⟩
      | i + 4 => simp [Uy.sl] at hs
  · rintro (⟨h, rfl⟩ | ⟨hd, ⟨q, x, hx, h⟩ | ⟨q, x, hx, h⟩⟩)
    · exact .here d _ h
    · exact .kid .expr d c _ 2 12 .expr az q x v (fun h => by cases h) (fun h => by cases h) (fun _ => hd) rfl rfl hx h
    · exact .kid .expr d c _ 3 13 .rel sz q x v (fun h => by cases h) (fun h => by cases h) (fun _ => hd) rfl rfl hx h
/-- What is visited in a relation's inputs. -/
def VI (m : Cm) (c : List Value) (d : Int) (l : List DT) (v : Int × DT) : Prop := ∃ (q : Nat) (x : DT), l[q]? = some x ∧ Vs m .rel (dep .rel c 2 q d) x v
theorem Vs.re {m : Cm} {d : Int} {c : List Value} {tz rz iz xz sz gz wz kz : List DT} {v : Int × DT} (h13 : kd c ≠ 13) : Vs m .rel d (.node c [tz, rz, iz, xz, sz, gz, wz, kz]) v ↔ VI m c d iz v ∨ VL m .expr d xz v ∨ VL m .agg d gz v ∨ VL m .win d wz v ∨ VL m .key d kz v := by
  constructor
  · intro h
    cases h with
    | kid _ _ _ _ i o s a q x _ hk hr he hs hl hx h =>
      match i with
      | 0 => simp [Uy.sl] at hs hl; obtain ⟨rfl, rfl⟩ := hs; exact absurd h.flat (by decide)
      | 1 => simp [Uy.sl] at hs hl; obtain ⟨rfl, rfl⟩ := hs; exact absurd h.flat (by decide)
      | 2 => simp [Uy.sl] at hs hl; obtain ⟨rfl, rfl⟩ := hs; subst hl; exact .inl ⟨q, x, hx, h⟩
      | 3 => simp [Uy.sl] at hs hl; obtain ⟨rfl, rfl⟩ := hs; subst hl; exact .inr (.inl ⟨q, x, hx, h⟩)
      | 4 => simp [Uy.sl] at hs hl; obtain ⟨rfl, rfl⟩ := hs; exact absurd h.flat (by decide)
      | 5 => simp [Uy.sl] at hs hl; obtain ⟨rfl, rfl⟩ := hs; subst hl; exact .inr (.inr (.inl ⟨q, x, hx, h⟩))
      | 6 => simp [Uy.sl] at hs hl; obtain ⟨rfl, rfl⟩ := hs; subst hl; exact .inr (.inr (.inr (.inl ⟨q, x, hx, h⟩)))
      | 7 => simp [Uy.sl] at hs hl; obtain ⟨rfl, rfl⟩ := hs; subst hl; exact .inr (.inr (.inr (.inr ⟨q, x, hx, h⟩)))
      | i + 8 => simp [Uy.sl] at hs
  · rintro (⟨q, x, hx, h⟩ | ⟨q, x, hx, h⟩ | ⟨q, x, hx, h⟩ | ⟨q, x, hx, h⟩ | ⟨q, x, hx, h⟩)
    · exact .kid .rel d c _ 2 6 .rel iz q x v (fun h => by cases h) (fun _ => h13) (fun h => by cases h) rfl rfl hx h
    · exact .kid .rel d c _ 3 7 .expr xz q x v (fun h => by cases h) (fun _ => h13) (fun h => by cases h) rfl rfl hx h
    · exact .kid .rel d c _ 5 9 .agg gz q x v (fun h => by cases h) (fun _ => h13) (fun h => by cases h) rfl rfl hx h
    · exact .kid .rel d c _ 6 10 .win wz q x v (fun h => by cases h) (fun _ => h13) (fun h => by cases h) rfl rfl hx h
    · exact .kid .rel d c _ 7 11 .key kz q x v (fun h => by cases h) (fun _ => h13) (fun h => by cases h) rfl rfl hx h
theorem Vs.no13 {m : Cm} {d : Int} {c : List Value} {k : List (List DT)} {v : Int × DT} (h13 : kd c = 13) (h : Vs m .rel d (.node c k) v) : False := by
  cases h with
  | kid _ _ _ _ i o s a q x _ hk hr he hs hl hx h => exact hr rfl h13
end Go.Proofs.YthijagpnpcpcbaaGreat

