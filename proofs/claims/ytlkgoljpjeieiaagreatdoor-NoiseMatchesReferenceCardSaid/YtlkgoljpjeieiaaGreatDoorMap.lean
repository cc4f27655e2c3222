/-
  Maps whose elements are told as the values that they are, by whatever names their keys.
-/
import Derived.Test.YtlkgoljpjeieiaaGreatDoorBase
import Derived.Maps.OwnSet
import Derived.Maps.OwnOps
import Derived.WideKeyEntry
set_option linter.unusedVariables false
set_option linter.unusedSimpArgs false
namespace Go.Proofs.YtlkgoljpjeieiaaGreatDoor
open Go.Maps

/-- f but for what it is at i. -/
def upd {ι α : Type} [DecidableEq ι] (f : ι → α) (i : ι) (x : α) : ι → α := fun j => if j = i then x else f j
theorem upd_same {ι α : Type} [DecidableEq ι] (f : ι → α) (i : ι) (x : α) : upd f i x i = x := by simp [upd]
theorem upd_other {ι α : Type} [DecidableEq ι] (f : ι → α) (i j : ι) (x : α) (h : j ≠ i) : upd f i x j = f j := by simp [upd, h]

/-- An element is told as itself. -/
def Rv (v : Value) : Option (DataW Value × List MemPlace) := some (.held v, [])

/-- Block b of w is a map of at most n entries that holds 'V i' at the key 'ky i' (z where there is none). -/
def MapIs {ι : Type} (ky : ι → Value) (w : World) (P : Program) (k : TypeId) (z : Value) (b n : Nat) (V : ι → Value) : Prop :=
  ∃ D : DataW Value, w.ownsMap P k Rv b n D ∧ ∀ i kl, keyOf P k (ky i) = some kl → D.atKey kl (.held z) = .held (V i)

section
variable {ι : Type} {ky : ι → Value} {w w' : World} {P : Program} {k : TypeId} {z : Value} {b n : Nat} {V : ι → Value}
theorem MapIs.made (ky : ι → Value) (w : World) (P : Program) (k : TypeId) (z : Value) : MapIs ky (w.alloc (.map #[] 0)) P k z w.heap.size 0 (fun _ => z) :=
  ⟨.map [], World.ownsMap_made _ _ _ _, fun _ _ _ => rfl⟩
theorem MapIs.lt (h : MapIs ky w P k z b n V) : b < w.heap.size := by
  obtain ⟨D, hown, _⟩ := h
  exact hown.lt
theorem MapIs.kept (h : MapIs ky w P k z b n V) (hb : w'.heap[b]? = w.heap[b]?) : MapIs ky w' P k z b n V := by
  obtain ⟨D, ⟨es, clock, h1, h2⟩, hV⟩ := h
  exact ⟨D, ⟨es, clock, hb.trans h1, h2⟩, hV⟩
theorem MapIs.mono (h : MapIs ky w P k z b n V) {n' : Nat} (hn : n ≤ n') : MapIs ky w P k z b n' V := by
  obtain ⟨D, h1, hV⟩ := h
  exact ⟨D, h1.mono hn, hV⟩
theorem MapIs.ext {V' : ι → Value} (h : MapIs ky w P k z b n V) (e : ∀ i, V i = V' i) : MapIs ky w P k z b n V' := by
  obtain rfl : V = V' := funext e
  exact h
theorem MapIs.lookup {t e : TypeId} (h : MapIs ky w P k z b n V) (K : Keyed P k) (ht : P.underlying t = some (.map k e)) (hz : (zeroValue e).run P w = .ok z w)
    (i : ι) {kl : Lit} (hkey : keyOf P k (ky i) = some kl) : (Instr.lookup t (.map (some b)) (ky i) false).run P w = .ok (V i) w := by
  obtain ⟨D, hown, hV⟩ := h
  obtain ⟨v, ps, hrun, hv⟩ := hown.lookup K ht hz (zd := .held z) (zp := []) rfl hkey
  rw [hV i kl hkey] at hv
  injection hv with hv
  injection hv with hv _
  injection hv with hv
  rw [hrun, hv]
theorem MapIs.update [DecidableEq ι] {t e : TypeId} (h : MapIs ky w P k z b n V) (K : Keyed P k) (ht : P.underlying t = some (.map k e)) (hn : n < maxLen) (hinj : ∀ i j, ky i = ky j → i = j)
    (i : ι) (v : Value) {kl : Lit} (hkey : keyOf P k (ky i) = some kl) :
    ∃ w', (Instr.mapUpdate t (.map (some b)) (ky i) v).run P w = .ok () w' ∧ MapIs ky w' P k z b (n + 1) (upd V i v) ∧ w.grownBy w' (some b) := by
  obtain ⟨D, hown, hV⟩ := h
  obtain ⟨w', hrun, hown', hg⟩ := hown.update K ht hn hkey (val := v) (d := .held v) (ps := []) rfl
  refine ⟨w', hrun, ⟨_, hown', fun j kj hj => ?_⟩, hg⟩
  by_cases e : j = i
  · subst e
    rw [hj] at hkey
    injection hkey with hkey
    subst hkey
    rw [upd_same]
    exact atKey_put_same hown.isMap (K.key hj) _ _
  · rw [upd_other _ _ _ _ e]
    have hne : kj ≠ kl := fun he => e (hinj _ _ (K.inj hj (he ▸ hkey)))
    rw [atKey_put_other hne]
    exact hV j kj hj

/-- The place of a key in a map, found (and laid, where there is none): what is there; and a store into it, later. -/
theorem MapIs.entry [DecidableEq ι] {t e : TypeId} (h : MapIs ky w P k z b n V) (K : WideMaps.KeyLaw P k) (ht : P.underlying t = some (.map k e)) (hn : n < maxLen) (hz : ∀ u : World, (zeroValue e).run P u = .ok z u)
    (hinj : ∀ i j, ky i = ky j → i = j) (i : ι) {kl : Lit} (hkey : keyOf P k (ky i) = some kl) :
    ∃ (st : Nat) (es1 : Array MapEntry) (clock1 : Nat), (∀ u : World, u.heap[b]? = w.heap[b]? → (Instr.mapEntry t (.map (some b)) (ky i)).run P u = .ok (.tuple #[V i, goInt st]) (ChangeMaps.setBlock u b (.map es1 clock1))) ∧
      ∀ val, ∃ (es' : Array MapEntry) (clock' : Nat), (∀ u : World, u.heap[b]? = some (.map es1 clock1) → (Instr.entryStore t (.map (some b)) (goInt st) val).run P u = .ok () (ChangeMaps.setBlock u b (.map es' clock'))) ∧
        ∀ u : World, u.heap[b]? = some (.map es' clock') → MapIs ky u P k z b (n + 1) (upd V i val) := by
  obtain ⟨D, ⟨es, clock, hb, F, hsz, hD⟩, hV⟩ := h
  have hupd := MapIs.update (ky := ky) (w := w) ⟨D, ⟨es, clock, hb, F, hsz, hD⟩, hV⟩ (Keyed.of_law K) ht hn hinj i
  have hl := MapIs.lookup (ky := ky) (w := w) ⟨D, ⟨es, clock, hb, F, hsz, hD⟩, hV⟩ (Keyed.of_law K) ht (hz w) i hkey
  obtain ⟨s1, s2, _⟩ := F.stamped
  have hap : es.toList.Pairwise (fun x y => x.key ≠ y.key) := ((MapKept.stamped_iff es clock).1 F.stamped).2.2
  have fin : ∀ (es' : Array MapEntry) (clock' : Nat) (val : Value), (Instr.mapUpdate t (.map (some b)) (ky i) val).run P w = .ok () (ChangeMaps.setBlock w b (.map es' clock')) →
      ∀ u : World, u.heap[b]? = some (.map es' clock') → MapIs ky u P k z b (n + 1) (upd V i val) := by
    intro es' clock' val hrun u hu
    obtain ⟨w', hr, hm, _⟩ := hupd val hkey
    rw [hrun] at hr
    injection hr with _ hr
    subst hr
    exact hm.kept (hu.trans (ChangeMaps.heap_setBlock_same hb _).symm)
  rcases K.find w hkey es.toList F.keys with ⟨h1, h2⟩ | ⟨j, e0, h1, h2, h3⟩
  · have h1u : ∀ u : World, (Instr.findKey k (ky i) es.toList).run P u = .ok none u := fun u => by
      rcases K.find u hkey es.toList F.keys with ⟨h, _⟩ | ⟨j, e, _, h, hk⟩
      · exact h
      · exact absurd hk (h2 e (List.mem_of_getElem? h))
    have hVz : V i = z := by
      have : (Instr.lookup t (.map (some b)) (ky i) false).run P w = .ok z w := by simp [Instr.lookup, run_underlying ht, MapKept.run_getObj_map hb, K.check w _ hkey, h1, hz, Result.andThen]
      rw [this] at hl
      injection hl with hl
      exact hl.symm
    refine ⟨clock, es.push ⟨ky i, z, clock⟩, clock + 1, fun u hu => ?_, fun val => ⟨es.push ⟨ky i, val, clock⟩, clock + 1, fun u hu => ?_, fin _ _ _ ?_⟩⟩
    · simp [Instr.mapEntry, run_underlying ht, MapKept.run_getObj_map (hu.trans hb), K.check u false hkey, h1u u, hz, MapKept.run_setObj_map _ (hu.trans hb), Result.andThen, ChangeMaps.setBlock, hVz]
    · have hidx : (es.push ⟨ky i, z, clock⟩).findIdx? (fun e => ((e.born : Nat) : Int) == ((clock : Nat) : Int)) = some es.size := by
        rw [WideElems.findIdx_arr]
        have := WideElems.findIdx_born (l := (es.push ⟨ky i, z, clock⟩).toList) (j := es.size) (e0 := ⟨ky i, z, clock⟩) (by
          simp only [Array.toList_push, List.map_append, List.map_cons, List.map_nil]
          refine List.nodup_append.2 ⟨s2, by simp, fun a ha c hc e1 => ?_⟩
          simp only [List.mem_singleton] at hc
          obtain ⟨x, hx, rfl⟩ := List.mem_map.1 ha
          have := s1 x hx
          omega) (by simp)
        exact this
      have hmod : (es.push ⟨ky i, z, clock⟩).modify es.size (fun e => { e with val := val }) = es.push ⟨ky i, val, clock⟩ := by
        apply Array.ext'
        rw [Array.toList_modify, Array.toList_push, Array.toList_push, ← Array.length_toList, WideElems.modify_last]
      simp [Instr.entryStore, MapKept.run_getObj_map hu, asInt, asIntOf, goInt, hidx, hmod, MapKept.run_setObj_map _ hu, Result.andThen, ChangeMaps.setBlock]
    · simp [Instr.mapUpdate, run_underlying ht, MapKept.run_getObj_map hb, K.check w false hkey, h1, MapKept.run_setObj_map _ hb, Result.andThen, ChangeMaps.setBlock]
  · have hj : es[j]? = some e0 := by simpa using h2
    have h1u : ∀ u : World, (Instr.findKey k (ky i) es.toList).run P u = .ok (some (j, e0.val)) u := fun u => by
      rcases K.find u hkey es.toList F.keys with ⟨_, h⟩ | ⟨j', e', h, h', hk⟩
      · exact absurd h3 (h e0 (List.mem_of_getElem? h2))
      · have hjj : j' = j := by
          obtain ⟨hl1, he1⟩ := List.getElem?_eq_some_iff.1 h'
          obtain ⟨hl2, he2⟩ := List.getElem?_eq_some_iff.1 h2
          rcases Nat.lt_trichotomy j' j with hlt | heq | hlt
          · exact absurd (by rw [he1, he2, hk, h3]) (List.pairwise_iff_getElem.1 hap j' j hl1 hl2 hlt)
          · exact heq
          · exact absurd (by rw [he1, he2, hk, h3]) (List.pairwise_iff_getElem.1 hap j j' hl2 hl1 hlt)
        subst hjj
        rw [h2] at h'
        injection h' with h'
        subst h'
        exact h
    have hVz : V i = e0.val := by
      have : (Instr.lookup t (.map (some b)) (ky i) false).run P w = .ok e0.val w := by simp [Instr.lookup, run_underlying ht, MapKept.run_getObj_map hb, K.check w _ hkey, h1, Result.andThen]
      rw [this] at hl
      injection hl with hl
      exact hl.symm
    have hsame : es.modify j (fun e => { e with key := ky i }) = es := by
      apply Array.ext'
      rw [Array.toList_modify, ChangeMaps.modify_eq_set _ _ _ _ h2]
      have : ({ e0 with key := ky i } : MapEntry) = e0 := by rw [← h3]
      rw [this]
      exact WideElems.set_self _ _ _ h2
    refine ⟨e0.born, es, clock, fun u hu => ?_, fun val => ⟨es.modify j (fun e' => { e' with key := ky i, val := val }), clock, fun u hu => ?_, fin _ _ _ ?_⟩⟩
    · simp [Instr.mapEntry, run_underlying ht, MapKept.run_getObj_map (hu.trans hb), K.check u false hkey, h1u u, hj, h3, K.stays u hkey, hsame, MapKept.run_setObj_map _ (hu.trans hb), Result.andThen, ChangeMaps.setBlock, hVz]
    · have hidx : es.findIdx? (fun e => ((e.born : Nat) : Int) == ((e0.born : Nat) : Int)) = some j := by
        rw [WideElems.findIdx_arr]
        exact WideElems.findIdx_born s2 h2
      have hmod : es.modify j (fun e => { e with val := val }) = es.modify j (fun e' => { e' with key := ky i, val := val }) := by
        apply Array.ext'
        rw [Array.toList_modify, Array.toList_modify, ChangeMaps.modify_eq_set _ _ _ _ h2, ChangeMaps.modify_eq_set _ _ _ _ h2, ← h3]
      simp [Instr.entryStore, MapKept.run_getObj_map hu, asInt, asIntOf, goInt, hidx, hmod, MapKept.run_setObj_map _ hu, Result.andThen, ChangeMaps.setBlock]
    · simp [Instr.mapUpdate, run_underlying ht, MapKept.run_getObj_map hb, K.check w false hkey, h1, hj, h3, K.stays w hkey, MapKept.run_setObj_map _ hb, Result.andThen, ChangeMaps.setBlock]

theorem wpList_lookup_is {ops : Array Oper} {rest : List Oper} {o : Oper} {a : Act} {Q : Exit → Act → World → Prop}
    (hg : o.guard = none) (m x : Operand) (t : TypeId) (hop : o.op = Op.lookup t m x false) (e : TypeId) (K : Keyed P k) (ht : P.underlying t = some (.map k e)) (hz : (zeroValue e).run P w = .ok z w)
    (h : MapIs ky w P k z b n V) (hm : a.eval m = .map (some b)) (i : ι) (hx : a.eval x = ky i) (hkey : (keyOf P k (ky i)).isSome = true)
    (hK : wpList P ops Q rest (a.put o.dst (V i)) w) : wpList P ops Q (o :: rest) a w := by
  obtain ⟨kl, hkl⟩ := Option.isSome_iff_exists.1 hkey
  refine wpList_plain hg fun K' hK' => ?_
  have hrun := h.lookup K ht hz i hkl
  unfold Oper.wp
  simp [execOp, hop, hm, hx, hrun, Result.andThen]
  exact hK' _ _ hK

theorem wpList_update_is [DecidableEq ι] {ops : Array Oper} {rest : List Oper} {o : Oper} {a : Act} {Q : Exit → Act → World → Prop}
    (hg : o.guard = none) (m x v : Operand) (t : TypeId) (hop : o.op = Op.mapUpdate t m x v) (e : TypeId) (K : Keyed P k) (ht : P.underlying t = some (.map k e))
    (h : MapIs ky w P k z b n V) (hn : n < maxLen) (hinj : ∀ i j, ky i = ky j → i = j) (hm : a.eval m = .map (some b)) (i : ι) (hx : a.eval x = ky i) (hkey : (keyOf P k (ky i)).isSome = true)
    (val : Value) (hv : a.eval v = val)
    (hK : ∀ w', MapIs ky w' P k z b (n + 1) (upd V i val) → w.grownBy w' (some b) → wpList P ops Q rest (a.put o.dst undef) w') : wpList P ops Q (o :: rest) a w := by
  obtain ⟨kl, hkl⟩ := Option.isSome_iff_exists.1 hkey
  refine wpList_plain hg fun K' hK' => ?_
  obtain ⟨w', hrun, r1, r2⟩ := h.update K ht hn hinj i val hkl
  unfold Oper.wp
  simp [execOp, hop, hm, hx, hv, hrun, Result.andThen]
  exact hK' _ _ (hK w' r1 r2)
end
end Go.Proofs.YtlkgoljpjeieiaaGreatDoor
