import Derived.Test.YtjpmiejgcnfiiaaGreatQ3
import Derived.Test.YtjpmiejgcnfiiaaGreatQ10
set_option linter.unusedVariables false
set_option linter.unusedSimpArgs false
namespace Go.Proofs.YtjpmiejgcnfiiaaGreat.Lv

abbrev Rng := Int × Int
def hit (p : Int) (r : Rng) : Bool := decide (r.1 ≤ p) && decide (p < r.2)
theorem hit_iff {p : Int} {r : Rng} : hit p r = true ↔ r.1 ≤ p ∧ p < r.2 := by
 unfold hit; rw [Bool.and_eq_true, decide_eq_true_eq, decide_eq_true_eq]
def cov (l : List Rng) (p : Int) : Bool := l.any (hit p)
theorem cov_append (l k : List Rng) (p : Int) : cov (l ++ k) p = (cov l p || cov k p) := List.any_append

/-! ### Merged -/

def mstep (out : List Rng) (r : Rng) : List Rng :=
 if r.2 ≤ r.1 then out else match out.getLast? with
  | none => [r]
  | some q => if r.1 ≤ q.2 then out.dropLast ++ [(q.1, max q.2 r.2)] else out ++ [r]
/-- What a merge keeps. -/
structure Mg (pre out : List Rng) : Prop where
 pos : ∀ r ∈ out, r.1 < r.2
 apart : out.Pairwise fun a b => a.2 < b.1
 cov : ∀ p, cov out p = cov pre p
 from_ : ∀ r ∈ out, ∃ s ∈ pre, s.1 = r.1 ∧ s.1 < s.2
theorem Mg.nil : Mg [] [] := ⟨by simp, .nil, fun _ => rfl, by simp⟩
theorem Mg.step {pre out : List Rng} {r : Rng} (h : Mg pre out) (hr : ∀ s ∈ pre, s.1 ≤ r.1) : Mg (pre ++ [r]) (mstep out r) := by
 unfold mstep
 by_cases h0 : r.2 ≤ r.1
 ·rw [if_pos h0]
  refine ⟨h.pos, h.apart, fun p => ?_, fun q hq => ?_⟩
  ·rw [cov_append, ← h.cov]
   have : Lv.cov [r] p = false := by
    unfold Lv.cov
    rw [List.any_cons, List.any_nil, Bool.or_false, ← Bool.not_eq_true, hit_iff]; omega
   rw [this, Bool.or_false]
  ·obtain ⟨s, hs, e⟩ := h.from_ q hq
   exact ⟨s, by simp [hs], e⟩
 ·rw [if_neg h0]
  cases hl : out.getLast? with
  | none =>
   rw [List.getLast?_eq_none_iff] at hl
   subst hl
   refine ⟨fun q hq => ?_, by simp, fun p => ?_, fun q hq => ?_⟩
   ·rw [List.mem_singleton.1 hq]; omega
   ·rw [cov_append, ← h.cov]; rfl
   ·rw [List.mem_singleton.1 hq]; exact ⟨r, by simp, rfl, by omega⟩
  | some q =>
   obtain ⟨k, rfl⟩ : ∃ k, out = k ++ [q] := by
    rw [List.getLast?_eq_some_iff] at hl; exact hl
   have hap := h.apart
   rw [List.pairwise_append] at hap
   have hq := h.pos q (by simp)
   obtain ⟨s, hs, hs1, hs2⟩ := h.from_ q (by simp)
   have hqr : q.1 ≤ r.1 := by rw [← hs1]; exact hr s hs
   simp only [List.dropLast_concat]
   by_cases h1 : r.1 ≤ q.2
   ·rw [if_pos h1]
    refine ⟨fun z hz => ?_, ?_, fun p => ?_, fun z hz => ?_⟩
    ·rcases List.mem_append.1 hz with h2 | h2
     ·exact h.pos z (by simp [h2])
     ·rw [List.mem_singleton.1 h2]; show q.1 < max q.2 r.2; omega
    ·rw [List.pairwise_append]
     exact ⟨hap.1, by simp, fun a ha b hb => by rw [List.mem_singleton.1 hb]; exact hap.2.2 a ha q (by simp)⟩
    ·rw [cov_append, cov_append, ← h.cov, cov_append, Bool.or_assoc]
     congr 1
     unfold Lv.cov
     simp only [List.any_cons, List.any_nil, Bool.or_false]
     rw [Bool.eq_iff_iff, Bool.or_eq_true, hit_iff, hit_iff, hit_iff]
     show (q.1 ≤ p ∧ p < max q.2 r.2) ↔ _
     omega
    ·rcases List.mem_append.1 hz with h2 | h2
     ·obtain ⟨s', hs', e⟩ := h.from_ z (by simp [h2])
      exact ⟨s', by simp [hs'], e⟩
     ·rw [List.mem_singleton.1 h2]; exact ⟨s, by simp [hs], hs1, hs2⟩
   ·rw [if_neg h1]
    refine ⟨fun z hz => ?_, ?_, fun p => ?_, fun z hz => ?_⟩
    ·rcases List.mem_append.1 hz with h2 | h2
     ·exact h.pos z h2
     ·rw [List.mem_singleton.1 h2]; omega
    ·rw [List.pairwise_append]
     refine ⟨h.apart, by simp, fun a ha b hb => ?_⟩
     rw [List.mem_singleton.1 hb]
     rcases List.mem_append.1 ha with h2 | h2
     ·have := hap.2.2 a h2 q (by simp); omega
     ·rw [List.mem_singleton.1 h2]; omega
    ·rw [cov_append, h.cov, cov_append]
    ·rcases List.mem_append.1 hz with h2 | h2
     ·obtain ⟨s', hs', e⟩ := h.from_ z h2
      exact ⟨s', by simp [hs'], e⟩
     ·rw [List.mem_singleton.1 h2]; exact ⟨r, by simp, rfl, by omega⟩
/-- No two of a merged list hold one position. -/
theorem Mg.once {pre out : List Rng} (h : Mg pre out) (p : Int) : (out.filter (hit p)).length = if Lv.cov pre p then 1 else 0 := by
 rw [← h.cov p]
 have key : ∀ l : List Rng, (∀ r ∈ l, r.1 < r.2) → (l.Pairwise fun a b => a.2 < b.1) → (l.filter (hit p)).length = if Lv.cov l p then 1 else 0 := by
  intro l
  induction l with
  | nil => intro _ _; rfl
  | cons a l ih =>
   intro h1 h2
   rw [List.pairwise_cons] at h2
   have ih' := ih (fun r hr => h1 r (by simp [hr])) h2.2
   unfold Lv.cov
   rw [List.any_cons]
   cases ha : hit p a with
   | true =>
    have hn : l.filter (hit p) = [] := by
     rw [List.filter_eq_nil_iff]
     intro b hb hb1
     have h3 := h2.1 b hb
     rw [hit_iff] at ha hb1
     omega
    rw [List.filter_cons_of_pos ha, hn]; simp
   | false =>
    rw [List.filter_cons_of_neg (by simp [ha]), ih', Bool.false_or]; rfl
 exact key out h.pos h.apart

/-! ### The sweep -/

abbrev Turn := Int × Int
def TLe (a b : Turn) : Prop := a.1 < b.1 ∨ (a.1 = b.1 ∧ a.2 ≤ b.2)
def turnsOf (M : List Rng) : List Turn := M.flatMap fun r => [(r.1, 1), (r.2, -1)]
def sumT (l : List Turn) : Int := (l.map (·.2)).sum
def cntM (M : List Rng) (p : Int) : Int := ((M.filter (hit p)).length : Int)
theorem sumT_append (l k : List Turn) : sumT (l ++ k) = sumT l + sumT k := by unfold sumT; rw [List.map_append, List.sum_append]
theorem sumT_perm {l k : List Turn} (h : l.Perm k) : sumT l = sumT k := by
 unfold sumT
 induction h with
 | nil => rfl
 | cons x _ ih => simp only [List.map_cons, List.sum_cons, ih]
 | swap x y l => simp only [List.map_cons, List.sum_cons]; omega
 | trans _ _ ih1 ih2 => rw [ih1, ih2]
def upTo (p : Int) (t : Turn) : Bool := decide (t.1 < p) || (decide (t.1 = p) && decide (t.2 ≤ 1))
theorem upTo_iff {p : Int} {t : Turn} : upTo p t = true ↔ TLe t (p, 1) := by
 unfold upTo TLe
 rw [Bool.or_eq_true, Bool.and_eq_true, decide_eq_true_eq, decide_eq_true_eq, decide_eq_true_eq]
theorem sum_upTo : ∀ {M : List Rng}, (∀ r ∈ M, r.1 < r.2) → ∀ p, sumT ((turnsOf M).filter (upTo p)) = cntM M p
 | [], _, _ => rfl
 | r :: M, h, p => by
  have ih := sum_upTo (M := M) (fun q hq => h q (by simp [hq])) p
  have hr := h r (by simp)
  unfold turnsOf at ih ⊢
  unfold cntM at ih ⊢
  rw [List.flatMap_cons, List.filter_append, sumT_append, ih, List.filter_cons]
  have e1 : upTo p (r.1, 1) = decide (r.1 ≤ p) := by
   rw [Bool.eq_iff_iff, upTo_iff, decide_eq_true_eq]; unfold TLe; simp only; omega
  have e2 : upTo p (r.2, -1) = decide (r.2 ≤ p) := by
   rw [Bool.eq_iff_iff, upTo_iff, decide_eq_true_eq]; unfold TLe; simp only; omega
  simp only [List.filter_cons, e1, e2, List.filter_nil]
  unfold hit
  by_cases g1 : r.1 ≤ p
  ·by_cases g2 : r.2 ≤ p
   ·have g3 : ¬ p < r.2 := by omega
    simp [g1, g2, g3, sumT]
   ·have g3 : p < r.2 := by omega
    simp [g1, g2, g3, sumT]; omega
  ·have g2 : ¬ r.2 ≤ p := by omega
   simp [g1, g2, sumT]
/-- A sorted row's part up to p is one of its beginnings. -/
theorem filter_upTo {T : List Turn} (hs : T.Pairwise TLe) (p : Int) : ∃ post, T = T.filter (upTo p) ++ post := by
 induction T with
 | nil => exact ⟨[], rfl⟩
 | cons t T ih =>
  rw [List.pairwise_cons] at hs
  cases ht : upTo p t with
  | true =>
   obtain ⟨post, h⟩ := ih hs.2
   exact ⟨post, by rw [List.filter_cons_of_pos ht, List.cons_append, ← h]⟩
  | false =>
   refine ⟨t :: T, ?_⟩
   have hn : T.filter (upTo p) = [] := by
    rw [List.filter_eq_nil_iff]
    intro s hs1 hs2
    have h1 := hs.1 s hs1
    rw [upTo_iff] at hs2
    have : upTo p t = true := by rw [upTo_iff]; unfold TLe at *; omega
    rw [ht] at this; cases this
   rw [List.filter_cons_of_neg (by simp [ht]), hn]; rfl
/-- The sweep: now and most. -/
structure Sw (M : List Rng) (pre : List Turn) (now most : Int) : Prop where
 now : now = sumT pre
 up : ∀ a b, pre = a ++ b → sumT a ≤ most
 at_ : most = 0 ∨ ∃ r ∈ M, most ≤ cntM M r.1
theorem Sw.nil (M : List Rng) : Sw M [] 0 0 := ⟨rfl, fun a b h => by
 have : a = [] := by cases a with | nil => rfl | cons x a => cases h
 rw [this]; exact Int.le_refl _, .inl rfl⟩
theorem Sw.zero {M : List Rng} {pre : List Turn} {now most : Int} (h : Sw M pre now most) : 0 ≤ most := h.up [] pre rfl
theorem Sw.step {M : List Rng} (hM : ∀ r ∈ M, r.1 < r.2) {T pre post : List Turn} {t : Turn} {now most : Int} (hp : T.Perm (turnsOf M)) (hs : T.Pairwise TLe) (hT : T = pre ++ t :: post) (h : Sw M pre now most) :
  Sw M (pre ++ [t]) (now + t.2) (max most (now + t.2)) := by
 have hnow : now + t.2 = sumT (pre ++ [t]) := by rw [sumT_append, ← h.now]; simp [sumT]
 refine ⟨hnow, fun a b hab => ?_, ?_⟩
 ·rcases List.eq_nil_or_concat b with rfl | ⟨b', z, rfl⟩
  ·rw [List.append_nil] at hab
   rw [← hab, ← hnow]; omega
  ·rw [List.concat_eq_append, ← List.append_assoc] at hab
   have h1 := List.append_inj' hab rfl
   have := h.up a b' h1.1
   omega
 ·by_cases hle : now + t.2 ≤ most
  ·rw [Int.max_eq_left hle]; exact h.at_
  ·rw [Int.max_eq_right (by omega)]
   right
   have ht : t ∈ turnsOf M := hp.mem_iff.1 (by rw [hT]; simp)
   unfold turnsOf at ht
   obtain ⟨r, hr, ht⟩ := List.mem_flatMap.1 ht
   simp only [List.mem_cons, List.not_mem_nil, or_false] at ht
   rcases ht with rfl | rfl
   ·refine ⟨r, hr, ?_⟩
    rw [← sum_upTo hM, ← sumT_perm (hp.filter (upTo r.1)), hnow]
    have hpw := hs
    rw [hT, List.pairwise_append] at hpw
    have e1 : (pre ++ [(r.1, (1 : Int))]).filter (upTo r.1) = pre ++ [(r.1, (1 : Int))] := by
     rw [List.filter_eq_self]
     intro s hs1
     rw [upTo_iff]
     rcases List.mem_append.1 hs1 with h2 | h2
     ·exact hpw.2.2 s h2 _ (by simp)
     ·rw [List.mem_singleton.1 h2]; unfold TLe; simp
    rw [hT, show pre ++ (r.1, (1 : Int)) :: post = (pre ++ [(r.1, (1 : Int))]) ++ post by simp, List.filter_append, e1]
    have h9 := sumT_append (pre ++ [(r.1, (1 : Int))]) (post.filter (upTo r.1))
    have h3 : 0 ≤ sumT (post.filter (upTo r.1)) := by
     unfold sumT
     have hall : ∀ s ∈ post.filter (upTo r.1), s.2 = 1 := fun s hs1 => by
      obtain ⟨h4, h5⟩ := List.mem_filter.1 hs1
      rw [upTo_iff] at h5
      have h6 := (List.pairwise_cons.1 hpw.2.1).1 s h4
      unfold TLe at h5 h6
      simp only at h5 h6
      omega
     generalize post.filter (upTo r.1) = z at hall
     induction z with
     | nil => simp
     | cons s z ih =>
      rw [List.map_cons, List.sum_cons, hall s (by simp)]
      have := ih (fun q hq => hall q (by simp [hq]))
      omega
    omega
   ·exfalso
    have := h.up pre [] (by simp)
    rw [← h.now] at this
    simp only at hle
    omega
/-- What the sweep finds. -/
theorem Sw.end_ {M : List Rng} (hM : ∀ r ∈ M, r.1 < r.2) {T : List Turn} {now most : Int} (hp : T.Perm (turnsOf M)) (hs : T.Pairwise TLe) (h : Sw M T now most) : (∀ p, cntM M p ≤ most) ∧ (most = 0 ∨ ∃ r ∈ M, most = cntM M r.1) := by
 have h1 : ∀ p, cntM M p ≤ most := fun p => by
  obtain ⟨post, e⟩ := filter_upTo hs p
  have := h.up _ post e
  rwa [sumT_perm (hp.filter (upTo p)), sum_upTo hM] at this
 refine ⟨h1, ?_⟩
 rcases h.at_ with h2 | ⟨r, hr, h2⟩
 ·exact .inl h2
 ·exact .inr ⟨r, hr, Int.le_antisymm h2 (h1 r.1)⟩

/-! ### Counted -/

theorem Mg.perm {pre pre' out : List Rng} (h : Mg pre out) (hp : pre.Perm pre') : Mg pre' out :=
 ⟨h.pos, h.apart, fun p => by
  rw [h.cov]
  unfold Lv.cov
  rw [Bool.eq_iff_iff, List.any_eq_true, List.any_eq_true]
  constructor
  ·rintro ⟨x, hx, e⟩; exact ⟨x, hp.mem_iff.1 hx, e⟩
  ·rintro ⟨x, hx, e⟩; exact ⟨x, hp.mem_iff.2 hx, e⟩, fun r hr => by
  obtain ⟨s, hs, e⟩ := h.from_ r hr
  exact ⟨s, hp.mem_iff.1 hs, e⟩⟩
def cntL (L : List (List Rng)) (p : Int) : Int := ((L.filter fun x => cov x p).length : Int)
/-- Each of Ms is a merge of its fellow of L. -/
inductive MgAll : List (List Rng) → List (List Rng) → Prop
 | nil : MgAll [] []
 | cons {x m L Ms} : Mg x m → MgAll L Ms → MgAll (x :: L) (m :: Ms)
theorem MgAll.count {L Ms : List (List Rng)} (h : MgAll L Ms) (p : Int) : cntM Ms.flatten p = cntL L p := by
 induction h with
 | nil => rfl
 | @cons x m L Ms hm _ ih =>
  have h1 := hm.once p
  unfold cntM cntL at *
  rw [List.flatten_cons, List.filter_append, List.length_append, List.filter_cons]
  cases hc : cov x p with
  | true => rw [hc] at h1; simp only [if_true] at h1 ⊢; rw [List.length_cons]; omega
  | false => rw [hc] at h1; simp only [Bool.false_eq_true, if_false] at h1 ⊢; omega
theorem MgAll.pos {L Ms : List (List Rng)} (h : MgAll L Ms) : ∀ r ∈ Ms.flatten, r.1 < r.2 := by
 induction h with
 | nil => simp
 | cons hm _ ih =>
  intro r hr
  rw [List.flatten_cons] at hr
  rcases List.mem_append.1 hr with h1 | h1
  ·exact hm.pos r h1
  ·exact ih r h1
theorem MgAll.from_ {L Ms : List (List Rng)} (h : MgAll L Ms) : ∀ r ∈ Ms.flatten, ∃ x ∈ L, ∃ s ∈ x, s.1 = r.1 := by
 induction h with
 | nil => simp
 | cons hm _ ih =>
  intro r hr
  rw [List.flatten_cons] at hr
  rcases List.mem_append.1 hr with h1 | h1
  ·obtain ⟨s, hs, e, _⟩ := hm.from_ r h1
   exact ⟨_, by simp, s, hs, e⟩
  ·obtain ⟨x, hx, s, hs, e⟩ := ih r h1
   exact ⟨x, by simp [hx], s, hs, e⟩
theorem MgAll.snoc {L Ms : List (List Rng)} (h : MgAll L Ms) {x m : List Rng} (hm : Mg x m) : MgAll (L ++ [x]) (Ms ++ [m]) := by
 induction h with
 | nil => exact .cons hm .nil
 | cons h1 _ ih => exact .cons h1 ih
/-- What the reference counts. -/
structure RefM (L : List (List Rng)) (m : Int) : Prop where
 zero : 0 ≤ m
 up : ∀ x ∈ L, ∀ r ∈ x, cntL L r.1 ≤ m
 at_ : m = 0 ∨ ∃ x ∈ L, ∃ r ∈ x, m = cntL L r.1
theorem most_eq {L Ms : List (List Rng)} (h : MgAll L Ms) {T : List Turn} {now most m : Int} (hp : T.Perm (turnsOf Ms.flatten)) (hs : T.Pairwise TLe) (hsw : Sw Ms.flatten T now most) (hr : RefM L m) : most = m := by
 obtain ⟨h1, h2⟩ := hsw.end_ h.pos hp hs
 have h0 := hsw.zero
 apply Int.le_antisymm
 ·rcases h2 with h2 | ⟨r, hrm, h2⟩
  ·rw [h2]; exact hr.zero
  ·obtain ⟨x, hx, s, hs1, e⟩ := h.from_ r hrm
   rw [h2, h.count, ← e]
   exact hr.up x hx s hs1
 ·rcases hr.at_ with h3 | ⟨x, _, r, _, h3⟩
  ·rw [h3]; exact h0
  ·rw [h3, ← h.count]; exact h1 r.1
end Go.Proofs.YtjpmiejgcnfiiaaGreat.Lv
namespace Go.Proofs.YtjpmiejgcnfiiaaGreat
open Go Go.RowKit

/-- A live range list in memory. -/
structure LvD where
 val : Int
 a : Option Addr
 l : List Lv.Rng
 c : Nat
def rngC (r : Lv.Rng) : List Value := [.int .i64 r.1, .int .i64 r.2]
def lvC (x : LvD) : List Value := [.int .i64 x.val, .slice x.a x.l.length x.c]
structure LvOk (w : World) (x : LvD) : Prop where
 seg : Seg w x.a (x.l.flatMap rngC)
 len : x.l.length ≤ maxLen
theorem LvOk.keep {w w' : World} {x : LvD} (h : LvOk w x) (hk : Keep w w') : LvOk w' x := ⟨h.seg.keep hk, h.len⟩
theorem rng_get {w wr : World} {A : Option Addr} {l : List Lv.Rng} {k : Nat} {r : Lv.Rng} (h : Seg w A (l.flatMap rngC)) (hkeep : Keep w wr) (hr : l[k]? = some r) :
  ∃ b off, A = some ⟨b, off, none⟩ ∧ b < w.heap.size ∧ wr.cell? ⟨b, off + k * 2, none⟩ = some (.int .i64 r.1) ∧ wr.cell? ⟨b, off + k * 2 + 1, none⟩ = some (.int .i64 r.2) := by
 obtain ⟨hk, e⟩ := List.getElem?_eq_some_iff.1 hr
 obtain ⟨b, off, e', hb, hc⟩ := h.elem 2 (fun _ => rfl) (by omega) hk
 rw [e] at hc
 exact ⟨b, off, e', hb, by have := hkeep.cell (hc 0 _ rfl); simpa using this, by have := hkeep.cell (hc 1 _ rfl); rwa [← Nat.add_assoc] at this⟩
structure Lives (w : World) (A : Option Addr) (ls : List LvD) : Prop where
 seg : Seg w A (ls.flatMap lvC)
 ok : ∀ x ∈ ls, LvOk w x
theorem Lives.keep {w w' : World} {A : Option Addr} {ls : List LvD} (h : Lives w A ls) (hk : Keep w w') : Lives w' A ls := ⟨h.seg.keep hk, fun x hx => (h.ok x hx).keep hk⟩
theorem Lives.get {w wr : World} {A : Option Addr} {ls : List LvD} {k : Nat} {x : LvD} (h : Lives w A ls) (hkeep : Keep w wr) (hx : ls[k]? = some x) :
  ∃ b off, A = some ⟨b, off, none⟩ ∧ b < w.heap.size ∧ wr.cell? ⟨b, off + k * 2, none⟩ = some (.int .i64 x.val) ∧ wr.cell? ⟨b, off + k * 2 + 1, none⟩ = some (.slice x.a x.l.length x.c) ∧ LvOk wr x := by
 obtain ⟨hk, e⟩ := List.getElem?_eq_some_iff.1 hx
 obtain ⟨b, off, e', hb, hc⟩ := h.seg.elem 2 (fun _ => rfl) (by omega) hk
 rw [e] at hc
 exact ⟨b, off, e', hb, by have := hkeep.cell (hc 0 _ rfl); simpa using this, by have := hkeep.cell (hc 1 _ rfl); rwa [← Nat.add_assoc] at this, (h.ok x (List.mem_of_getElem? hx)).keep hkeep⟩

set_option maxHeartbeats 2000000 in
theorem lives_calls (x : LvD) (p : Int) (w : World) (h : LvOk w x) :
  Calls Tryz.prog 54 #[.agg #[.int .i64 x.val, .slice x.a x.l.length x.c], .int .i64 p] w fun e w' => e = .returned (.bool (Lv.cov x.l p)) ∧ Keep w w' := by
 obtain ⟨xv, xa, xl, xc⟩ := x
 have hlm : xl.length ≤ maxLen := h.len
 unfold maxLen at hlm
 have hs : Seg w xa (xl.flatMap rngC) := h.seg
 obtain ⟨wa, hwa⟩ : ∃ wa : World, w.alloc (.cells #[.int .i64 xv, .slice xa xl.length xc] 68) = wa := ⟨_, rfl⟩
 have hka : Keep w wa := by rw [← hwa]; exact (Keep.refl _).alloc _
 have bx : Blk wa w.heap.size 68 [.int .i64 xv, .slice xa xl.length xc] := by rw [← hwa]; exact Blk.new w _ _
 have c1 : wa.cell? ⟨w.heap.size, 1, none⟩ = some (.slice xa xl.length xc) := bx.cell 1
 have lt := bx.lt
 clear bx h
 show Calls Tryz.prog 54 #[.agg #[.int .i64 xv, .slice xa xl.length xc], .int .i64 p] w fun e w' => e = .returned (.bool (Lv.cov xl p)) ∧ Keep w w'
 go_enter Tryz.func54, Tryz.ntmps54
 go_wp2_with fail
 clear hwa
 go_loopw [5] (fun vi wr => ∃ k : Nat, k ≤ xl.length ∧ vi = .int .i64 k ∧ Hid (Lv.cov (xl.take k) p = false) ∧ Hid (Keep wa wr)) (fun i _ => xl.length - (intOf i).toNat)
 case atStart => exact ⟨0, Nat.zero_le _, rfl, Lib.hid rfl, Lib.hid (Keep.refl _)⟩
 case round =>
  obtain ⟨k, hk, rfl, hc, hkeep⟩ := hrel
  have c1r := hkeep.out.cell c1
  have ltr := Nat.lt_of_lt_of_le lt hkeep.out.size
  by_cases hin : k < xl.length
  ·obtain ⟨r, hr⟩ := get_some hin
   obtain ⟨b, off, rfl, hb, r0, r1⟩ := rng_get hs (hka.trans hkeep.out) hr
   have hbl := Nat.lt_of_lt_of_le hb (hka.trans hkeep.out).size
   have hkk : (k : Int) < (xl.length : Int) := by omega
   have hk0 : (0 : Int) ≤ (k : Int) := by omega
   have Hn := Lib.hid (show Lv.cov (xl.take (k + 1)) p = Lv.hit p r by
    rw [List.take_add_one, hr, Lv.cov_append, hc.out]; simp [Lv.cov])
   have Hy := Lib.hid (show Lv.hit p r = true → Lv.cov xl p = true from fun e => List.any_eq_true.2 ⟨r, List.mem_of_getElem? hr, e⟩)
   clear hr hc
   by_cases g1 : r.1 ≤ p
   ·by_cases g2 : p < r.2
    ·have hh := Hy.out (Lv.hit_iff.2 ⟨g1, g2⟩)
     have Hh := Lib.hid hh
     clear hh
     go_wp2
     go_ret
     exact ⟨by rw [Hh.out]; rfl, hka.trans hkeep.out⟩
    ·have Hf := Lib.hid (show Lv.cov (xl.take (k + 1)) p = false by rw [Hn.out, ← Bool.not_eq_true, Lv.hit_iff]; omega)
     have g2d : decide (p < r.2) = false := decide_eq_false g2
     go_wp2
     go_roundw
     case rel => exact ⟨k + 1, hin, by go_num, Hf, hkeep⟩
     case measure => simp [intOf]; omega
   ·have Hf := Lib.hid (show Lv.cov (xl.take (k + 1)) p = false by rw [Hn.out, ← Bool.not_eq_true, Lv.hit_iff]; omega)
    have g1d : decide (r.1 ≤ p) = false := decide_eq_false g1
    go_wp2
    go_roundw
    case rel => exact ⟨k + 1, hin, by go_num, Hf, hkeep⟩
    case measure => simp [intOf]; omega
  ·have Hf := Lib.hid (show Lv.cov xl p = false by
    have := hc.out
    rwa [List.take_of_length_le (by omega)] at this)
   clear hs hc
   go_wp2
   go_ret
   exact ⟨by rw [Hf.out]; rfl, hka.trans hkeep.out⟩
end Go.Proofs.YtjpmiejgcnfiiaaGreat
namespace Go.Proofs.YtjpmiejgcnfiiaaGreat
open Go Go.RowKit

theorem elR : ElT Tryz.prog 66 70 2 16 rngC where
 slice := Tryz.underlying66
 info := info_of (z := .agg #[.int .i64 0, .int .i64 0]) (by kernel_rfl) rfl
 pos := by omega
 len := fun _ => rfl
 one := fun x u hu => by simp [rngC] at hu; rcases hu with rfl | rfl <;> rfl
/-- The rows of ranges: one for each value. -/
abbrev RgRows (w : World) (b base : Nat) (L : List (List Lv.Rng)) : Prop := RowsAt rngC 2 70 66 w b base L
/-- What a step on the rows may change: the array, the row of marks, rows of ranges. -/
def RngS (rb bl bm : Nat) (w : World) (k : Nat) : Prop := k = bl ∨ k = bm ∨ rb ≤ k ∧ ∃ cs fl, w.heap[k]? = some (.cells cs 70 fl)
theorem RngS.trans {rb bl bm : Nat} {a b c : World} (h : Ext (RngS rb bl bm a) a b) (k : Ext (RngS rb bl bm b) b c) : Ext (RngS rb bl bm a) a c := by
 refine h.trans k fun i hi hs => ?_
 rcases hs with rfl | rfl | ⟨hr, cs, fl, h1⟩
 ·exact .inl rfl
 ·exact .inr (.inl rfl)
 ·rcases Classical.em (RngS rb bl bm a i) with h2 | h2
  ·exact h2
  ·rw [h.block i hi h2] at h1
   exact .inr (.inr ⟨hr, cs, fl, h1⟩)
theorem RngS.keep {rb bl bm : Nat} {a b : World} (h : Keep a b) : Ext (RngS rb bl bm a) a b := h.ext _
theorem Blk.rngS {rb bl bm : Nat} {w w' : World} {b : Nat} {t : TypeId} {cs : List Value} (h : Blk w b t cs) (hE : Ext (RngS rb bl bm w) w w') (h1 : b ≠ bl) (h2 : b ≠ bm) (h3 : t ≠ 70) : Blk w' b t cs := by
 refine h.ext hE fun hs => ?_
 rcases hs with e | e | ⟨_, cs', fl, h4⟩
 ·exact h1 e
 ·exact h2 e
 ·unfold Blk at h
  rw [h] at h4; cases h4; exact h3 rfl
theorem Own.rngS {α : Type} {f : α → List Value} {s : Nat} {e : TypeId} {w w' : World} {base rb bl bm : Nat} {v : Value} {xs : List α} (h : Own f s e w base v xs) (hE : Ext (RngS rb bl bm w) w w') (h1 : ∀ k, v.ownBlock = some k → k ≠ bl ∧ k ≠ bm) (h3 : e ≠ 70) : Own f s e w' base v xs := by
 refine h.ext hE fun k hk hs => ?_
 rcases hs with e' | e' | ⟨_, cs', fl, h4⟩
 ·exact (h1 k hk).1 e'
 ·exact (h1 k hk).2 e'
 ·rcases h.2 with ⟨rfl, _⟩ | ⟨g1, cap, cur, rfl, _, hh, _⟩
  ·cases hk
  ·simp only [Value.ownBlock, Option.some.injEq] at hk
   subst hk
   rw [hh] at h4; cases h4; exact h3 rfl
/-- The last range of a row is changed. -/
theorem rng_last (k : List Lv.Rng) (q q' : Lv.Rng) (h : q'.1 = q.1) : (k ++ [q']).flatMap rngC = ((k ++ [q]).flatMap rngC).set (k.length * 2 + 1) (.int .i64 q'.2) := by
 have hl := flat_length rngC 2 (fun _ => rfl) k
 rw [List.flatMap_append, List.flatMap_append, List.set_append, if_neg (by omega), hl, show k.length * 2 + 1 - k.length * 2 = 1 by omega]
 simp [rngC, h]
/-- A row's cell is written. -/
theorem RowsAt.edit {α : Type} {f : α → List Value} {s : Nat} {ei eo : TypeId} {w : World} {b base : Nat} {L : List (List α)} (hf : ∀ x, (f x).length = s) (hne : ei ≠ eo) (h : RowsAt f s ei eo w b base L) {a g n c : Nat} (ha : a < L.length) (hc : w.cell? ⟨b, a, none⟩ = some (.slice (some ⟨g, 0, none⟩) n c)) (j : Nat) (u : Value) {ys : List α} (hy : ys.flatMap f = (L[a].flatMap f).set j u) (hl : ys.length = L[a].length) :
  RowsAt f s ei eo (w.setCell ⟨g, j, none⟩ u) b base (L.set a ys) := by
 obtain ⟨vs, h1, h2, h3, h4⟩ := h
 have hva : vs[a]? = some (.slice (some ⟨g, 0, none⟩) n c) := by rw [← hc, h1.cell]
 have hoa := h3 a _ _ hva (List.getElem?_eq_getElem ha)
 have hgb : g ≠ b := hoa.blk_apart h1 hne rfl
 refine ⟨vs, h1.far (p := ⟨g, j, none⟩) (fun e => hgb e.symm) u, by simp [h2], fun i v l hv hli => ?_, h4⟩
 by_cases e : a = i
 ·subst e
  rw [hva] at hv
  cases hv
  rw [List.getElem?_set_self ha] at hli
  cases hli
  exact hoa.put hf j u hy hl
 ·rw [List.getElem?_set_ne e] at hli
  exact (h3 i v l hv hli).put_far (fun q hq e' => h4 a i _ _ g e hva hv rfl (by rw [hq, show q = g from e'])) u
theorem RowsAt.at_ {α : Type} {f : α → List Value} {s : Nat} {ei eo : TypeId} {w : World} {b base : Nat} {L : List (List α)} (h : RowsAt f s ei eo w b base L) {a : Nat} (ha : a < L.length) : ∃ A c, w.cell? ⟨b, a, none⟩ = some (.slice A L[a].length c) ∧ L[a].length ≤ c ∧ c ≤ maxLen ∧ Own f s ei w base (.slice A L[a].length c) L[a] := by
 obtain ⟨vs, h1, h2, h3, h4⟩ := h
 have hva : vs[a]? = some vs[a] := List.getElem?_eq_getElem (by omega)
 have ho := h3 a _ _ hva (List.getElem?_eq_getElem ha)
 obtain ⟨A, c, e, h5, h6⟩ := ho.form
 exact ⟨A, c, by rw [h1.cell, hva, e], h5, h6, by rw [← e]; exact ho⟩
theorem RowsAt.blk {α : Type} {f : α → List Value} {s : Nat} {ei eo : TypeId} {w : World} {b base : Nat} {L : List (List α)} (h : RowsAt f s ei eo w b base L) : ∃ vs, Blk w b eo vs := by
 obtain ⟨vs, h1, _⟩ := h
 exact ⟨vs, h1⟩

theorem RowsAt.push2 {α : Type} {f : α → List Value} {s : Nat} {ei eo : TypeId} {w : World} {base : Nat} {L : List (List α)} {P : Program} {ti : TypeId} {bytes : Nat} (E : ElT P ti ei s bytes f) (hne : ei ≠ eo) {b : Nat} (h : RowsAt f s ei eo w b base L) {a : Nat} (ha : a < L.length) (x : α) (hn : L[a].length < 1000000) (hby : bytes ≤ 1000) (hbase : base ≤ w.heap.size) (ty : TypeId) :
  ∃ A c, w.cell? ⟨b, a, none⟩ = some (.slice A L[a].length c) ∧ ∃ v' w2, (∃ A' c', v' = .slice A' (L[a].length + 1) c') ∧ (Builtin.append_ #[ti, ti] ty #[.slice A L[a].length c, .slice (some ⟨w.heap.size, 0, none⟩) 1 1]).run P (w.alloc (.cells (f x).toArray ei)) = .ok v' w2 ∧
   w2.cell? ⟨b, a, none⟩ = some (.slice A L[a].length c) ∧ w2.frozen? ⟨b, a, none⟩ = false ∧ b < w2.heap.size ∧
   RowsAt f s ei eo (w2.setCell ⟨b, a, none⟩ v') b base (L.set a (L[a] ++ [x])) ∧ Ext (fun k => k = b ∨ base ≤ k ∧ ∃ cs fl, w.heap[k]? = some (.cells cs ei fl)) w (w2.setCell ⟨b, a, none⟩ v') := by
 obtain ⟨vs, h1, h2, h3, h4⟩ := h
 have hv : vs[a]? = some vs[a] := List.getElem?_eq_getElem (by omega)
 have hl : L[a]? = some L[a] := List.getElem?_eq_getElem ha
 have ho := h3 a _ _ hv hl
 obtain ⟨A, c, hform, _⟩ := ho.form
 have hka : Keep w (w.alloc (.cells (f x).toArray ei)) := (Keep.refl _).alloc _
 have hseg : Seg (w.alloc (.cells (f x).toArray ei)) (some ⟨w.heap.size, 0, none⟩) ([x].flatMap f) := by
  have : [x].flatMap f = f x := by simp
  rw [this]
  exact Seg.of_blk (Blk.new w ei (f x))
 have hmul : (L[a].length + 1) * bytes ≤ (L[a].length + 1) * 1000 := Nat.mul_le_mul_left _ hby
 obtain ⟨v', w2, hrun, hown, hg, hgb⟩ := append_run (ys := [x]) E (ho.keep hka) hseg 1 ty (by simp [maxLen]; omega) (by simp; omega) (Nat.le_trans hbase hka.size)
 have hbr : ∀ k, vs[a].ownBlock = some k → k ≠ b := fun k hk => ho.blk_apart h1 hne hk
 have hb2 : Blk w2 b eo vs := by
  have hbk := h1.keep hka
  exact (hg.block b hbk.lt (fun e => hbr b e.symm rfl)).trans hbk
 have hE : Ext (fun k => k = b ∨ base ≤ k ∧ ∃ cs fl, w.heap[k]? = some (.cells cs ei fl)) w (w2.setCell ⟨b, a, none⟩ v') :=
  ((hka.ext _).grown hg (fun k hk _ => .inr (by
   rcases ho.2 with ⟨e, _⟩ | ⟨g1, cap, cur, e, hbg, hh, _⟩
   ·rw [e] at hk; cases hk
   ·rw [e] at hk
    simp only [Value.ownBlock, Option.some.injEq] at hk
    subst hk
    exact ⟨hbg, _, _, hh⟩))).setCell (p := ⟨b, a, none⟩) (fun _ => .inl rfl) v'
 refine ⟨A, c, ?_, v', w2, (by obtain ⟨A', c', e', _⟩ := hown.form; exact ⟨A', c', by rw [e']; simp⟩), by rw [← hform]; exact hrun, ?_, hb2.frozen a, hb2.lt, ⟨vs.set a v', hb2.set_ a v', by simp [h2], ?_, ?_⟩, hE⟩
 ·rw [h1.cell, hv, hform]
 ·rw [hb2.cell, hv, hform]
 ·intro i v l hi hli
  by_cases e : a = i
  ·subst e
   rw [List.getElem?_set_self (by omega)] at hi hli
   cases hi
   cases hli
   exact hown.put_far (fun k hk => hown.blk_apart hb2 hne hk) _
  ·rw [List.getElem?_set_ne e] at hi hli
   have hoi := h3 i v l hi hli
   have hoi2 : Own f s ei w2 base v l := (hoi.keep hka).grown hg (by
    cases hq : v.ownBlock with
    | none => exact .inl rfl
    | some k => exact .inr fun e1 => h4 a i _ _ k e hv hi e1.symm hq)
   exact hoi2.put_far (fun k hk => hoi2.blk_apart hb2 hne hk) _
 ·intro i j v u k hij hi hj hk
  by_cases ei' : a = i
  ·subst ei'
   rw [List.getElem?_set_self (by omega)] at hi
   cases hi
   rw [List.getElem?_set_ne hij] at hj
   rcases hgb with e | e
   ·exact h4 a j _ _ k hij hv hj (e ▸ hk)
   ·intro hu
    have hjl : j < L.length := by have := (List.getElem?_eq_some_iff.1 hj).1; omega
    have h5 : k < w.heap.size := ((h3 j u L[j] hj (List.getElem?_eq_getElem hjl)).lt k hu).2
    rw [hk] at e
    have h6 := Option.some.inj e
    have h7 := hka.size
    omega
  ·rw [List.getElem?_set_ne ei'] at hi
   by_cases ej : a = j
   ·subst ej
    rw [List.getElem?_set_self (by omega)] at hj
    cases hj
    intro hu
    rcases hgb with e | e
    ·exact h4 i a _ _ k hij hi hv hk (e ▸ hu)
    ·have hil : i < L.length := by have := (List.getElem?_eq_some_iff.1 hi).1; omega
     have h5 : k < w.heap.size := ((h3 i v L[i] hi (List.getElem?_eq_getElem hil)).lt k hk).2
     rw [hu] at e
     have h6 := Option.some.inj e
     have h7 := hka.size
     omega
   ·rw [List.getElem?_set_ne ej] at hj
    exact h4 i j v u k hij hi hj hk

set_option maxHeartbeats 4000000 in
theorem add_calls (L : List (List Lv.Rng)) (br bl bm base nv cl v : Nat) (x y : Int) (w : World) (cs : List Value) (hr : Blk w br 95 (.slice (some ⟨bl, 0, none⟩) nv cl :: cs)) (hL : RgRows w bl base L) (hlen : L.length = nv) (hv : v < nv) (hln : ∀ l ∈ L, l.length < 1000000) (hb : base ≤ w.heap.size) :
  Calls Tryz.prog 51 #[.pointer (some ⟨br, 0, none⟩), .int .i64 (v : Int), .int .i64 x, .int .i64 y] w fun e w' => (∃ u, e = .returned u) ∧ RgRows w' bl base (L.set v (Lv.joinR (L.getD v []) (x, y))) ∧ Ext (RngS base bl bm w) w w' := by
 have mixed : Tryz.prog.follows .mixedOrders = true := by kernel_rfl
 have hvL : v < L.length := by omega
 have c0 : w.cell? ⟨br, 0, none⟩ = some (.slice (some ⟨bl, 0, none⟩) nv cl) := hr.cell 0
 have lbr := hr.lt
 obtain ⟨A, c, q0, hc1, hc2, hown⟩ := hL.at_ hvL
 have eLv : L.getD v [] = L[v] := by rw [List.getD_eq_getElem?_getD, List.getElem?_eq_getElem hvL]; rfl
 have hlv := hln L[v] (List.getElem_mem hvL)
 obtain ⟨vs, hbl⟩ := hL.blk
 have lbl := hbl.lt
 have hvi : (v : Int) < (nv : Int) := by omega
 have hvi0 : (0 : Int) ≤ (v : Int) := by omega
 have Hr := Lib.hid hr
 have HL := Lib.hid hL
 unfold maxLen at hc2
 rw [eLv]
 have hd : Keep w w.drew := (Keep.refl _).drew
 have hbrl : br ≠ bl := hr.ne hbl (by decide)
 have kx := fun z : KB w br => z.cell c0
 rcases List.eq_nil_or_concat L[v] with hnil | ⟨k, q, hkq⟩
 ·have hz : L[v].length = 0 := by rw [hnil]; rfl
  have hpush := (hL.keep hd).push2 (P := Tryz.prog) elR (by decide) hvL (x, y) (by omega) (by omega) hb 66
  obtain ⟨A', c', q0', v', w2, ⟨A2, c2', rfl⟩, hrun, d2, f2, l2, hR2, hE2⟩ := hpush
  rw [(hd.cell q0)] at q0'
  cases q0'
  have Hend := Lib.hid (show RgRows (w2.setCell ⟨bl, v, none⟩ (.slice A2 (L[v].length + 1) c2')) bl base (L.set v (Lv.joinR L[v] (x, y))) ∧ Ext (RngS base bl bm w) w (w2.setCell ⟨bl, v, none⟩ (.slice A2 (L[v].length + 1) c2')) from
   ⟨by rw [show Lv.joinR L[v] (x, y) = L[v] ++ [(x, y)] from by rw [hnil]; rfl]; exact hR2, by
    have hdx : Ext (RngS base bl bm w) w w.drew := hd.ext _
    refine hdx.trans hE2 fun k hk e => ?_
    rcases e with e | ⟨hrb, cs', fl, e⟩
    ·exact .inl e
    ·exact .inr (.inr ⟨hrb, cs', fl, e⟩)⟩)
  have Hk3 := Lib.hid (show (w2.setCell ⟨bl, v, none⟩ (.slice A2 (L[v].length + 1) c2')).heap[br]? = w.heap[br]? from hE2.block br lbr (fun e => by
   rcases e with e | ⟨hrb, cs', fl, e⟩
   ·exact hbrl e
   ·unfold Blk at hr
    have e : w.heap[br]? = _ := e
    rw [hr] at e; cases e))
  have Hk2 := Lib.hid (show w2.heap[br]? = w.heap[br]? from (Below.heap_setCell w2 ⟨bl, v, none⟩ (.slice A2 (L[v].length + 1) c2') br hbrl).symm.trans Hk3.out)
  have Hrun := Lib.hid hrun
  have hka : (w.drew.alloc (.cells #[.int .i64 x, .int .i64 y] 70)).heap[br]? = w.heap[br]? := (hd.alloc _).block br lbr
  obtain ⟨n, hn⟩ : ∃ n, L[v].length = n := ⟨_, rfl⟩
  have Hn := Lib.hid hn
  rw [hn] at q0 Hrun hc1 hlv d2 Hend Hk3
  have hrunX := Hrun.out
  have Hrun : Hid ((Builtin.append_ #[66, 66] 66 #[.slice A n c, .slice (some ⟨w.heap.size, 0, none⟩) 1 1]).run Tryz.prog (w.drew.alloc (.cells #[.int .i64 x, .int .i64 y] 70)) = .ok (.slice A2 (n + 1) c2') w2) := Lib.hid hrunX
  have hn0 : n = 0 := by omega
  subst hn0
  clear hr hL hown hbl hnil hz hn hln hlen eLv hb hE2 hR2 hrun hrunX
  go_enter Tryz.func51, Tryz.ntmps51
  go_wp2_with fail
  refine region_begin (S := fun w' => ∃ z : KB w br, w' = z.val) (by kernel_rfl) ?_
  refine region_take [0, 1, 2, 3, 4, 5, 6, 7, 8] [] 4 (by kernel_rfl) (by kernel_rfl) (KB.mk' rfl) ?_
  show wpQuiet _ _ _ _ [_, _, _, _, _, _, _, _, _] _
  repeat (go_big_quiet_step (fail))
  refine wpQuiet_nil ?_
  refine region_fixU (i := 9) (fuel := 3) rfl rfl (by kernel_rfl) (fun K hK => ?_)
  go_simp
  refine hK _ _ (KB.mk' hka) ?_
  clear hK K
  refine region_fixU (i := 10) (fuel := 2) rfl rfl (by kernel_rfl) (fun K hK => ?_)
  refine wp_append_eq _ _ _ rfl _ _ rfl rfl _ _ Hrun.out ?_
  refine hK _ _ (KB.mk' Hk2.out) ?_
  clear hK K
  refine region_fixU (i := 11) (fuel := 1) rfl rfl (by kernel_rfl) (fun K hK => ?_)
  go_simp
  refine hK _ _ (KB.mk' Hk2.out) ?_
  clear hK K
  refine region_fixU (i := 12) (fuel := 0) rfl rfl (by kernel_rfl) (fun K hK => ?_)
  go_simp
  refine hK _ _ (KB.mk' Hk3.out) ?_
  clear hK K
  refine region_done (by kernel_rfl) ?_
  clear kx hka
  go_wp2
  refine bodyPost_end (results_none rfl _ _ _) rfl ⟨⟨_, rfl⟩, Hend.out.1, Hend.out.2⟩
 ·rw [List.concat_eq_append] at hkq
  have hlk : L[v].length = k.length + 1 := by rw [hkq]; simp
  obtain ⟨g, c0', e, _, _, hgc⟩ := own_at hown (by omega)
  obtain rfl : A = some ⟨g, 0, none⟩ := by cases e; rfl
  have p2 : w.cell? ⟨g, k.length * 2 + 1, none⟩ = some (.int .i64 q.2) := hgc _ _ (by
   rw [flat_get rngC 2 (fun _ => rfl) L[v] k.length 1 (by omega) (by omega)]
   simp [hkq, rngC])
  have pf := hown.thawed (k.length * 2 + 1)
  have pl : g < w.heap.size := (hown.lt g rfl).2
  obtain ⟨n, hn⟩ : ∃ n, n = L[v].length := ⟨_, rfl⟩
  have hnk : (n : Int) - 1 = (k.length : Int) := by omega
  have hwk : IntKind.i64.wrap ((n : Int) - 1) = (k.length : Int) := by rw [hnk]; exact IntWalk.i64_in _ (by omega)
  have m0 : (0 : Int) ≤ (k.length : Int) := by omega
  have m1 : (k.length : Int) < (n : Int) := by omega
  have mp : decide (0 < n) = true := decide_eq_true (by omega)
  by_cases hj : x ≤ q.2
  ·obtain ⟨mx, hmx⟩ : ∃ mx : Int, (if q.2 < y then y else q.2) = mx := ⟨_, rfl⟩
   have hmx2 : max q.2 y = mx := by rw [← hmx]; split <;> omega
   have Hend := Lib.hid (show RgRows (w.setCell ⟨g, k.length * 2 + 1, none⟩ (.int .i64 mx)) bl base (L.set v (Lv.joinR L[v] (x, y))) ∧ Ext (RngS base bl bm w) w (w.setCell ⟨g, k.length * 2 + 1, none⟩ (.int .i64 mx)) from
    ⟨by
     rw [hkq, Lv.joinR_in hj]
     show RgRows _ _ _ (L.set v (k ++ [(q.1, max q.2 y)]))
     rw [hmx2]
     refine RowsAt.edit (f := rngC) (s := 2) (ei := 70) (eo := 66) (fun _ => rfl) (by decide) hL hvL q0 _ _ ?_ (by rw [hkq]; simp)
     rw [hkq]
     exact rng_last k q (q.1, mx) rfl, (Ext.refl _ _).setCell (p := ⟨g, k.length * 2 + 1, none⟩) (fun _ => by
      rcases hown.2 with ⟨e, _⟩ | ⟨g1, cap, cur, e, hbg, hh, _⟩
      ·cases e
      ·cases e
       exact .inr (.inr ⟨hbg, _, _, hh⟩)) _⟩)
   rw [← hn] at q0 hc1 hlv
   clear hr hL hown hbl hkq hlk hnk hn hgc e eLv hln hlen hb kx hmx2
   go_enter Tryz.func51, Tryz.ntmps51
   go_wp2_with fail
   refine bodyPost_ret (results_none rfl _ _ _) rfl ⟨⟨_, rfl⟩, Hend.out.1, Hend.out.2⟩
  ·have hjd : decide (x ≤ q.2) = false := decide_eq_false hj
   have hpush := (hL.keep hd).push2 (P := Tryz.prog) elR (by decide) hvL (x, y) (by omega) (by omega) hb 66
   obtain ⟨A', c', q0', v', w2, ⟨A2, c2', rfl⟩, hrun, d2, f2, l2, hR2, hE2⟩ := hpush
   rw [(hd.cell q0)] at q0'
   cases q0'
   have Hend := Lib.hid (show RgRows (w2.setCell ⟨bl, v, none⟩ (.slice A2 (L[v].length + 1) c2')) bl base (L.set v (Lv.joinR L[v] (x, y))) ∧ Ext (RngS base bl bm w) w (w2.setCell ⟨bl, v, none⟩ (.slice A2 (L[v].length + 1) c2')) from
    ⟨by rw [show Lv.joinR L[v] (x, y) = L[v] ++ [(x, y)] from by rw [hkq, Lv.joinR_out hj]]; exact hR2, by
     have hdx : Ext (RngS base bl bm w) w w.drew := hd.ext _
     refine hdx.trans hE2 fun k hk e => ?_
     rcases e with e | ⟨hrb, cs', fl, e⟩
     ·exact .inl e
     ·exact .inr (.inr ⟨hrb, cs', fl, e⟩)⟩)
   have Hk3 := Lib.hid (show (w2.setCell ⟨bl, v, none⟩ (.slice A2 (L[v].length + 1) c2')).heap[br]? = w.heap[br]? from hE2.block br lbr (fun e => by
    rcases e with e | ⟨hrb, cs', fl, e⟩
    ·exact hbrl e
    ·unfold Blk at hr
     have e : w.heap[br]? = _ := e
     rw [hr] at e; cases e))
   have Hk2 := Lib.hid (show w2.heap[br]? = w.heap[br]? from (Below.heap_setCell w2 ⟨bl, v, none⟩ (.slice A2 (L[v].length + 1) c2') br hbrl).symm.trans Hk3.out)
   have Hrun := Lib.hid hrun
   have hka : (w.drew.alloc (.cells #[.int .i64 x, .int .i64 y] 70)).heap[br]? = w.heap[br]? := (hd.alloc _).block br lbr
   
   replace hn := hn.symm
   rw [hn] at q0 Hrun hc1 hlv d2 Hend Hk3
   have hrunX := Hrun.out
   have Hrun : Hid ((Builtin.append_ #[66, 66] 66 #[.slice (some ⟨g, 0, none⟩) n c, .slice (some ⟨w.heap.size, 0, none⟩) 1 1]).run Tryz.prog (w.drew.alloc (.cells #[.int .i64 x, .int .i64 y] 70)) = .ok (.slice A2 (n + 1) c2') w2) := Lib.hid hrunX
   clear hr hL hown hbl hkq hlk hnk hn hgc e eLv hln hlen hb hE2 hR2 hrun hrunX pf
   go_enter Tryz.func51, Tryz.ntmps51
   go_wp2_with fail
   refine region_begin (S := fun w' => ∃ z : KB w br, w' = z.val) (by kernel_rfl) ?_
   refine region_take [0, 1, 2, 3, 4, 5, 6, 7, 8] [] 4 (by kernel_rfl) (by kernel_rfl) (KB.mk' rfl) ?_
   show wpQuiet _ _ _ _ [_, _, _, _, _, _, _, _, _] _
   repeat (go_big_quiet_step (fail))
   refine wpQuiet_nil ?_
   refine region_fixU (i := 9) (fuel := 3) rfl rfl (by kernel_rfl) (fun K hK => ?_)
   go_simp
   refine hK _ _ (KB.mk' hka) ?_
   clear hK K
   refine region_fixU (i := 10) (fuel := 2) rfl rfl (by kernel_rfl) (fun K hK => ?_)
   refine wp_append_eq _ _ _ rfl _ _ rfl rfl _ _ Hrun.out ?_
   refine hK _ _ (KB.mk' Hk2.out) ?_
   clear hK K
   refine region_fixU (i := 11) (fuel := 1) rfl rfl (by kernel_rfl) (fun K hK => ?_)
   go_simp
   refine hK _ _ (KB.mk' Hk2.out) ?_
   clear hK K
   refine region_fixU (i := 12) (fuel := 0) rfl rfl (by kernel_rfl) (fun K hK => ?_)
   go_simp
   refine hK _ _ (KB.mk' Hk3.out) ?_
   clear hK K
   refine region_done (by kernel_rfl) ?_
   clear kx hka
   go_wp2
   refine bodyPost_end (results_none rfl _ _ _) rfl ⟨⟨_, rfl⟩, Hend.out.1, Hend.out.2⟩
end Go.Proofs.YtjpmiejgcnfiiaaGreat
