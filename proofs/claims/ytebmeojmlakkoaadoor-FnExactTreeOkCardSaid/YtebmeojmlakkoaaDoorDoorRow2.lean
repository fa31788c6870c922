/- laws.FnExactTreeOk returns true at every argument and leaves it as it was: impl.TreeOk answers as spec.TreeOk. Condition: the listed variable impl.keyWords holds what the program's text lays (the card ties it). -/
import Derived.Test.YtebmeojmlakkoaaDoorDoorRow
import Derived.LaidLaws
import Derived.OpenShut
import Derived.SevenTiedAt
set_option linter.all false
namespace Go.Proofs.YtebmeojmlakkoaaDoor
open Go Go.Asm Go.Asm.DoorF Go.ChangeShapes Go.WideShapes Go.ChangeAt Go.RowKit Go.WideElems

abbrev laid1 : List (String × DataW Unit) := [("loop.example/reed/impl.keyWords", Rows.laid_loop_example_reed_impl_keyWords)]
theorem laid_words {H : Type} : (Rows.laid_loop_example_reed_impl_keyWords : DataW H) = .map (words.map fun w => (.string w.data.toList, .lit (.bool true))) := rfl
theorem mem_ins {H : Type} {x y : Lit × DataW H} : ∀ {l : List (Lit × DataW H)}, y ∈ DataW.insert x l ↔ y = x ∨ y ∈ l
  | [] => by simp [DataW.insert]
  | z :: l => by
    unfold DataW.insert
    split
    · simp
    · rw [List.mem_cons, mem_ins, List.mem_cons]
      constructor
      · rintro (h | h | h) <;> simp [h]
      · rintro (h | h | h) <;> simp [h]
theorem mem_srt {H : Type} {y : Lit × DataW H} : ∀ {l : List (Lit × DataW H)}, y ∈ l.foldr DataW.insert [] ↔ y ∈ l
  | [] => by simp
  | z :: l => by rw [List.foldr_cons, mem_ins, mem_srt, List.mem_cons]
def keyS : Value → ByteArray
  | .string s => s
  | _ => ⟨#[]⟩
/-- The key words as they lie in memory. -/
theorem words_of_laid {W : World} (h : laidMetH Tryd.prog laid1 W) : ∃ (b : Nat) (es : Array MapEntry) (clock : Nat), W.var? Tryd.prog "loop.example/reed/impl.keyWords" = some #[.map (some b)] ∧ W.cell? ⟨0, 0, none⟩ = some (.map (some b)) ∧ W.heap[b]? = some (.map es clock) ∧
    (∀ x ∈ es.toList, x.key = .string (keyS x.key) ∧ x.val = .bool true) ∧ ∀ s : ByteArray, ((es.toList.map fun x => keyS x.key).any fun w => decide (w.toList = s.toList)) = isWord s := by
  rw [MakeChecks.laidMetH_plain _ _ _ (by kernel_rfl)] at h
  obtain ⟨ps, ⟨g0, t0, cs0, f0, p0, q0, hg0, ht0, hv0, hd0, _, _⟩, _, _⟩ := h
  obtain rfl := Option.some.inj (gWords.symm.trans hg0)
  obtain rfl := Option.some.inj (tWords.symm.trans ht0)
  rcases open_map Tryd.underlying64 hd0 with ⟨_, hx⟩ | ⟨b, es, clock, n, _, hcs, hb, _, F, hx⟩
  · rw [laid_words] at hx; simp at hx
  have hcs' : cs0 = #[.map (some b)] := by cases cs0; simpa using hcs
  subst hcs'
  simp only [Prod.mk.injEq] at hx
  obtain ⟨hx, _⟩ := hx
  rw [laid_words] at hx
  have hx : (words.map fun w => ((.string w.data.toList, .lit (.bool true)) : Lit × DataW Unit)) = (es.toList.map (rg Tryd.prog 9 (elemAt (fun _ => ()) Tryd.prog W 0 (fun _ => true) false n 4))).foldr DataW.insert [] := by injection hx
  have hcell : W.cell? ⟨0, 0, none⟩ = some (.map (some b)) := by simpa using World.var?_cell hg0 hv0 0
  have each : ∀ x ∈ es.toList, ∃ s : ByteArray, x.key = .string s ∧ x.val = .bool true ∧ rg Tryd.prog 9 (elemAt (fun _ => ()) Tryd.prog W 0 (fun _ => true) false n 4) x = (.string s.data.toList, .lit (.bool true)) := by
    intro x hxm
    obtain ⟨y, hy⟩ := F.reads x hxm
    have hk := rd_key hy
    obtain ⟨z, hz, hz2⟩ := rd_val hy
    obtain ⟨bb, hv, hz3⟩ := elemAt_bool Tryd.underlying4 hz
    have hrg := rg_of hy
    have hmem : y ∈ words.map fun w => ((.string w.data.toList, .lit (.bool true)) : Lit × DataW Unit) := by
      rw [hx]
      exact mem_srt.2 (List.mem_map.2 ⟨x, hxm, hrg⟩)
    obtain ⟨w, _, hw⟩ := List.mem_map.1 hmem
    have hb' : bb = true := by
      have : y.2 = .lit (.bool true) := by rw [← hw]
      rw [hz2, hz3] at this
      simpa using this
    rw [Go.keyOf_string Tryd.underlying9] at hk
    unfold mapKey at hk
    rw [Tryd.underlying9] at hk
    split at hk
    · rename_i h1 _; cases h1
    · rename_i h1 _; cases h1
    · rename_i s h1 hks
      split at hk
      · refine ⟨s, hks, by rw [hv, hb'], ?_⟩
        rw [hrg]
        have e1 : y.1 = .string s.data.toList := (Option.some.inj hk).symm
        have e2 : y.2 = .lit (.bool true) := by rw [← hw]
        rw [← e1, ← e2]
      · cases hk
    · cases hk
  refine ⟨b, es, clock, hv0, hcell, hb, fun x hxm => ?_, fun s => ?_⟩
  · obtain ⟨s, h1, h2, _⟩ := each x hxm
    rw [h1]
    exact ⟨rfl, h2⟩
  · rw [Bool.eq_iff_iff, List.any_map]
    unfold isWord
    simp only [List.any_eq_true, decide_eq_true_eq, Function.comp]
    constructor
    · rintro ⟨x, hxm, hs⟩
      obtain ⟨s', h1, _, h3⟩ := each x hxm
      have hmem : (Lit.string s'.data.toList, (DataW.lit (.bool true) : DataW Unit)) ∈ words.map fun w => ((.string w.data.toList, .lit (.bool true)) : Lit × DataW Unit) := by
        rw [hx, ← h3]
        exact mem_srt.2 (List.mem_map.2 ⟨x, hxm, rfl⟩)
      obtain ⟨w, hw, e⟩ := List.mem_map.1 hmem
      refine ⟨w, hw, ?_⟩
      have e' : w.data.toList = s'.data.toList := by
        have := congrArg Prod.fst e
        simpa using this
      rw [h1] at hs
      have hs' : s'.toList = s.toList := hs
      rw [← hs', ByteArray.toList_eq, ByteArray.toList_eq, e']
    · rintro ⟨w, hw, hs⟩
      have hmem : (Lit.string w.data.toList, (DataW.lit (.bool true) : DataW Unit)) ∈ (es.toList.map (rg Tryd.prog 9 (elemAt (fun _ => ()) Tryd.prog W 0 (fun _ => true) false n 4))).foldr DataW.insert [] := by
        rw [← hx]
        exact List.mem_map.2 ⟨w, hw, rfl⟩
      obtain ⟨x, hxm, hrg⟩ := List.mem_map.1 (mem_srt.1 hmem)
      obtain ⟨s', h1, _, h3⟩ := each x hxm
      refine ⟨x, hxm, ?_⟩
      rw [h3] at hrg
      have e' : s'.data.toList = w.data.toList := by
        have := congrArg Prod.fst hrg
        simpa using this
      rw [h1]
      show s'.toList = s.toList
      rw [← hs, ByteArray.toList_eq, ByteArray.toList_eq, e']
/-- The globals as the machine sees them. -/
noncomputable def Gl (es : Array MapEntry) : Nat → Option AV := fun g => if g = 0 then some (.pmap ((es.toList.map fun x => keyS x.key).map .str) ((es.toList.map fun x => keyS x.key).map fun _ => .bool true)) else none
theorem gl_rel {W : World} {b : Nat} {es : Array MapEntry} {clock : Nat} (hc : W.cell? ⟨0, 0, none⟩ = some (.map (some b))) (hb : W.heap[b]? = some (.map es clock)) (he : ∀ x ∈ es.toList, x.key = .string (keyS x.key) ∧ x.val = .bool true) :
    ∀ g v, Gl es g = some v → g < W.heap.size ∧ ∃ c, cellOf W.heap ⟨g, 0, none⟩ = some c ∧ VRel W.heap (G0 W) v c := by
  intro g v hg
  unfold Gl at hg
  split at hg
  · rename_i h0
    subst h0
    cases hg
    refine ⟨cell_lt hc, _, hc, .pmap (lt_of_get hb) hb (by simp) (by simp) (fun i k e hk hi => ?_) (fun i k e hk hi => ?_)⟩
    · simp only [List.getElem?_map, Option.map_eq_some_iff] at hk
      obtain ⟨s, ⟨x, hx, rfl⟩, rfl⟩ := hk
      have hi' : es.toList[i]? = some e := by simpa using hi
      rw [hi'] at hx
      cases hx
      rw [(he e (List.mem_of_getElem? hi')).1]
      exact .str
    · simp only [List.getElem?_map, Option.map_eq_some_iff] at hk
      obtain ⟨s, ⟨x, hx, rfl⟩, rfl⟩ := hk
      have hi' : es.toList[i]? = some e := by simpa using hi
      rw [hi'] at hx
      cases hx
      rw [(he e (List.mem_of_getElem? hi')).2]
      exact .bool
  · cases hg
theorem door_met (os : Os) (args : Array Value) : laidMetH Tryd.prog laid1 ((World.doorLaid Tryd.prog 400 os).forCall (fun _ _ => 0) ⟨#[], args, []⟩).memory := by
  rw [MakeChecks.laidMetH_plain _ _ _ (by kernel_rfl)]
  exact laidMet_of_run' 8 (by kernel_rfl) (by kernel_rfl)

set_option maxRecDepth 100000 in
theorem lifted (os : Os) (started : os.Started) (H : Type) (enc : TypeId × Value → H) :
    ReturnsInHanded {} Tryd.checked os 3 .any (fun w args => (Rows.fnExactTreeOkSpec.pre enc Tryd.prog Tryd.f3 [] false w args ∧ laidMetH Tryd.prog laid1 w) ∧ sizedMet enc Tryd.prog Tryd.f3 (OpenSpec.ofChange Rows.fnExactTreeOkSpec) false w args)
      (Rows.fnExactTreeOkSpec.post enc Tryd.prog Tryd.f3 false true false false) := by
  refine returnsInHanded_of_change_and (C := Tryd.checked) (X := fun w _ => laidMetH Tryd.prog laid1 w) (fun _ _ _ hh h => h.of_heap hh) own started (by kernel_rfl) Tryd.func3
    (ChangeSpec.witness_shaped (enc := enc) (C := Tryd.checked) (os := os) (X := fun w _ => laidMetH Tryd.prog laid1 w) false (World.doorLaid Tryd.prog 400 os) #[.agg #[.slice none 0 0]] 8 rfl (World.shaped_of_RefB (by kernel_rfl) (by kernel_rfl)) (by kernel_rfl) (by kernel_rfl) (by kernel_rfl) (door_met os _)) ?_
  intro W base args ds gs before hval0 hW _ _ hL _
  have hval : ∀ (j : Nat) t v, Tryd.f3.params[j]? = some t → args[j]? = some v → Value.okWide Tryd.prog W .any base t v := hval0
  have hW' := hW
  obtain ⟨p, q, hA0, hV0, rfl, hfz, hnd⟩ := hW
  have hA : DataW.TrodAll enc Tryd.prog W 0 (fun _ => true) true Tryd.f3.params.toList args.toList ds p := hA0
  have hV : DataW.TrodVars enc Tryd.prog W (fun _ => true) ["loop.example/reed/impl.keyWords"] gs q := hV0
  rw [Tryd.params3] at hA hval
  obtain ⟨v0, d0, rfl, rfl, h0⟩ := trodAll_one hA
  obtain ⟨l, hf, hn, hrel⟩ := rel_tree (hval 0 24 v0 rfl rfl) h0
  obtain ⟨b, es, clock, hvar, hcell, hb, he, hwords⟩ := words_of_laid hL
  have hgl := gl_rel hcell hb he
  obtain ⟨g, t, cs, fuel, d1, p1, rfl, hg, ht, hv, hd, rfl⟩ := trodVars_one hV
  obtain rfl := Option.some.inj (gWords.symm.trans hg)
  obtain rfl := Option.some.inj (tWords.symm.trans ht)
  obtain rfl := Option.some.inj (hvar.symm.trans hv)
  have hden := den_sound (P := Tryd.prog) (by kernel_rfl) (Gl es) okAll
  have hrun := fnExactTreeOk (D := Ctx.den fns (Gl es)) (l := l) (door (Gl es)) ⟨es.toList.map fun x => keyS x.key, rfl, hwords⟩ hf hn
  have hcalls := law_run (hden 3 [encTree l] Store.empty _ hrun) hgl hrel
  have hlt : ∀ x ∈ p, x.block < W.heap.size := fun x hx => by simpa using hW'.lt x (by simp [hx])
  have hlt1 : ∀ x ∈ p1, x.block < W.heap.size := fun x hx => by simpa using hW'.lt x (by simp [hx])
  refine hcalls.mono fun e W' ⟨hE, hbel⟩ => ?_
  subst hE
  refine ⟨_, rfl, post_of_old (pa := p) (pv := MemPlace.row ⟨0, 0, none⟩ 1 ++ p1) hW' (fun _ _ _ => trodAll_mk1 (shut_bool Tryd.underlying4 _)) (fun sp hsp => ?_) (fun sp hsp => ?_) rfl hbel (ok_one (by kernel_rfl) rfl (okWide_bool_mk Tryd.underlying4 _))⟩
  · refine trodAll_mk1 ?_
    exact WideElems.Trod_stays laidOut (by kernel_rfl) (of_decide_eq_true (by kernel_rfl)) h0 (fun x hx => hbel.same (hlt x hx)) (fun x hx => hsp x (by simp [hx]))
  · have hvar' : W'.var? Tryd.prog "loop.example/reed/impl.keyWords" = some #[.map (some b)] := by
      rw [← hvar]
      unfold World.var?
      rw [gWords]
      simp only [Option.bind_some]
      rw [hbel.block 0 (cell_lt hcell)]
    obtain ⟨fuel', hd'⟩ := WideElems.Trod_stays (enc := enc) (P := Tryd.prog) (base := 0) (t := 64) laidOut (by kernel_rfl) (of_decide_eq_true (by kernel_rfl)) (W := W) (W' := W') (sp' := sp) (v := .map (some b)) ⟨fuel, hd⟩ (fun x hx => hbel.same (hlt1 x hx)) (fun x hx => hsp x (by simp [hx]))
    exact trodVars_mk1 gWords tWords hvar' hd'

theorem over : Rows.FnExactTreeOkSaid :=
  OpenClaim.holds_of_wide 3 Tryd.f3 rfl rfl rfl rfl rfl rfl rfl ⟨rfl, rfl, rfl, rfl, rfl⟩ rfl rfl rfl rfl rfl (by kernel_rfl) Tryd.func3 (by kernel_rfl)
    (of_decide_eq_true (by kernel_rfl)) (by unfold Func.isWrapper; first | (rw [if_pos (by decide +kernel)]; kernel_rfl) | (rw [if_neg (by decide +kernel)]; exact ⟨rfl, rfl⟩))
    (fun os started H enc _ => lifted os started H enc)

theorem card_holds : Rows.FnExactTreeOkCardSaid :=
  Claim7.holds_tied_plain_at .later [] [.mapped] true (true, "515c81635a51130b8daa579b223740f620f1f48d3dddb0477af008b05101ddd4") false
    over (fun _ h => by cases h) (by kernel_rfl) (fun _ h => by cases h) fnExactTreeOk_row_tie rfl ⟨rfl, rfl⟩ (by kernel_rfl) rfl
    (fun f fn hf hfn => by
      obtain rfl : f = 3 := Option.some.inj ((show Tryd.prog.funcNamed "loop.example/reed/laws.FnExactTreeOk" = some 3 by kernel_rfl).symm.trans hf) |>.symm
      obtain rfl : fn = Tryd.f3 := (Option.some.inj (Tryd.func3.symm.trans hfn)).symm
      exact ⟨by kernel_rfl, fun j t ht => by
        rw [Tryd.params3] at ht
        have hm : t ∈ [24] := by simpa using Array.mem_of_getElem? ht
        have hall : ([24].all fun u => !Tryd.prog.wantsStandIn u) = true := by kernel_rfl
        exact (show Tryd.prog.wantsStandIn t = false by simpa using List.all_eq_true.1 hall t hm)⟩)
    (by kernel_rfl)
#print axioms card_holds
end Go.Proofs.YtebmeojmlakkoaaDoor
