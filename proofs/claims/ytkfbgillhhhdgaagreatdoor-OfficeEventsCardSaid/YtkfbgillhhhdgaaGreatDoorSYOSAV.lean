/- Part of a proof: an evaluator of the model's code by abstract values, and plain laws for it. No conditions. -/
import Derived.Test.YtkfbgillhhhdgaaGreatDoorSYORV
import Derived.Test.YtkfbgillhhhdgaaGreatDoorSYORM
import Derived.Test.YtkfbgillhhhdgaaGreatDoorBB
import Derived.Test.YtkfbgillhhhdgaaGreatDoorSYOSU
import Derived.Test.YtkfbgillhhhdgaaGreatDoorCards
import Derived.Test.YtkfbgillhhhdgaaGreatDoorTie
set_option linter.unusedSimpArgs false
set_option linter.unusedVariables false
section
/- The law on the events of the office: what is accepted. -/
set_option maxRecDepth 100000
set_option maxHeartbeats 1000000
namespace Go.Fly.Tryz
open Go Off Go.Proofs.Tryz
theorem zjK:Holds prog G0 3 zm4:=by
 refine Holds.of_exC D3 func3 rfl zK (by kernel_rfl) (tab [(15,awkC),(16,zht),(17,zkA),(18,za7),(19,zlw),(20,jp),(21,qA),(22,ownJC),(23,je),(21,je),(zm 3,zG)]) (zk ⟨zmb,zjj,zeS,jt,zm9,zbJ,zaP,lOwn_ok,zeU,zaQ,za,trivial⟩) zw fun k0 rl args hpu hpre=>?_
 unfold zm4 at hpre ⊢
 obtain⟨l,e,rfl,⟨hl,hE⟩,he⟩:=hpre
 cases s1:jE l 24 with
 | false =>
   simp only[f3]
   rw[zb (Nat.le_of_ble_eq_true rfl)]
   simp(maxSteps:=4000000) only[go_sem,↓zj,↓reduceIte,zf,s1]
   exact⟨⟨l,24,rfl,hl,hE⟩,zo.refl _⟩
 | true =>
   have hn:=zj3 (n:=24) s1
   have hB:=zj4 s1 hE
   cases s2:vJ e with
   | false =>
     simp only[f3]
     rw[zb (Nat.le_of_ble_eq_true rfl)]
     simp(maxSteps:=4000000) only[go_sem,↓zj,↓reduceIte,zf,s1,s2]
     exact⟨⟨l,24,rfl,hl,hE⟩,⟨e,rfl,he⟩,zo.refl _⟩
   | true =>
     have hBe:=he.evB s2
     simp only[f3]
     rw[zb (Nat.le_of_ble_eq_true rfl)]
     simp(maxSteps:=4000000) only[go_sem,↓zj,↓reduceIte,zf,s1,s2]
     exact⟨⟨l,24,rfl,hl,hE⟩,⟨e,rfl,he⟩,⟨e,rfl,hBe⟩,⟨e,rfl,hBe⟩,⟨e,rfl,hBe⟩,⟨l,rfl,by omega,hB⟩,⟨e,rfl,hBe⟩,⟨l,_,_,e,rfl,rfl,fun i _=>rfl,by omega,hB,hBe⟩,⟨l,e,rfl,by omega,hB,hBe⟩,zo.refl _⟩
end Go.Fly.Tryz
end
section
/- PROVED: for every input, 'flyoverlaw10.OfficeEvents' returns true, and its arguments read behind the call as they did. Conditions: those of the given row, none beside. The card ties the listed variables to the program's text (a pruned copy). -/
set_option maxRecDepth 100000
namespace Go.Proofs.YtkfbgillhhhdgaaGreatDoor
open Go Go.ChangeShapes Go.WideShapes Go.RowKit Go.Fly Go.Fly.Off Go.Fly.Tryz Off
theorem read22:Tryz.prog.readableRec 22=true:=by kernel_rfl
theorem row22:22 < Tryz.prog.types.size:=of_decide_eq_true (by kernel_rfl)
theorem read26:Tryz.prog.readableRec 26=true:=by kernel_rfl
theorem row26:26 < Tryz.prog.types.size:=of_decide_eq_true (by kernel_rfl)
theorem lifted (os:Os)(started:os.Started)(H:Type)(enc:TypeId×Value→H) :
 ReturnsInHanded {} Tryz.checked os 3 .any (fun w args=>(Rows.officeEventsSpec.pre enc Tryz.prog Tryz.f3 [] false w args∧laidMetH Tryz.prog zgQ w)∧sizedMet enc Tryz.prog Tryz.f3 (OpenSpec.ofChange Rows.officeEventsSpec) false w args)
  (Rows.officeEventsSpec.post enc Tryz.prog Tryz.f3 false true false false):=by
 refine returnsInHanded_of_change_and (C:=Tryz.checked) (X:=fun w _=>laidMetH Tryz.prog zgQ w) (fun _ _ _ hh h=>h.of_heap hh) own started (by kernel_rfl) Tryz.func3
  (ChangeSpec.witness_shaped (enc:=enc) (C:=Tryz.checked) (os:=os) (X:=fun w _=>laidMetH Tryz.prog zgQ w) false (World.laidAll Tryz.prog os zgQ)
   #[.slice none 0 0,.agg #[.int .i64 0,.string ⟨#[]⟩,.slice none 0 0,.slice none 0 0,.string ⟨#[]⟩]] 8 (World.laidAll_os _ _ _) (World.shaped_of_ZipB (by kernel_rfl) (by kernel_rfl)) (by kernel_rfl) (by kernel_rfl) (by kernel_rfl) (laid_met os _)) ?_
 intro W base args ds gs before hval0 hW _ _ hL _
 have hval:∀ (j:Nat) t v,Tryz.f3.params[j]?=some t→args[j]?=some v→Value.okWide Tryz.prog W .any base t v:=hval0
 have hW':=hW
 obtain⟨p,q,hA0,hV,rfl,hfz,hnd⟩:=hW
 have hA:DataW.TrodAll enc Tryz.prog W 0 (fun _=>true) true Tryz.f3.params.toList args.toList ds p:=hA0
 have hplt:=hA.lt
 rw[Tryz.params3] at hA hval
 obtain⟨v0,v1,d0,d1,p0,p1,hargs,rfl,rfl,h0,h1⟩:=trodAll_two hA
 subst hargs
 obtain⟨rfl,rfl⟩:=trodVars_none hV
 obtain⟨a0,s0,u0,r0⟩:=sl_arg Tryz.underlying22 (rEvs W) (hval 0 22 v0 rfl rfl) h0
 obtain⟨l0,hl0,he0,ha0⟩:=s0
 obtain⟨rfl⟩:a0=zf 5 encEv l0:=by simpa using ha0
 obtain⟨g1,s1,u1,r1⟩:=agg_arg Tryz.underlying26 (rEv W) (hval 1 26 v1 rfl rfl) h1
 obtain⟨e1,hg1,rfl⟩:=s1
 clear hA0 hval0
 have key:=zjK (0,0) [zf 5 encEv l0,.agg (encEv e1)] W (fun _=>False) #[v0,v1] (fun _ h=>h.elim) (zjQ hL)
  (fun a ha=>by
   simp only[List.mem_cons,List.not_mem_nil,or_false] at ha
   rcases ha with rfl | rfl
   ·exact u0
   ·exact u1)
  ⟨rfl,fun j v hv=>by
   match j,hv with
   | 0,hv=>cases hv;exact r0
   | 1,hv=>cases hv;exact r1
   | j+2,hv=>simp at hv⟩
  ⟨l0,e1,rfl,⟨hl0,fun x hx=>(he0 x hx).len⟩,hg1.len⟩
 refine key.mono fun e W' ⟨rv,B,he,hst,_,hr⟩=>?_
 have hr:R _ (.bool true) rv:=hr
 obtain rfl:=hr.bool_inv
 have hno:∀ b,¬ (yN W fun _=>False).owned b:=fun b ⟨l,o,c,h,_⟩=>by cases h
 have hb:Below W.heap.size W W':=⟨hst.os,hst.tape,hst.output,hst.size,fun k hk=>hst.keep k hk (hno k)⟩
 have lt0:∀ x∈p0,x.block < W.heap.size:=fun x hx=>hplt x (by simp[hx])
 have lt1:∀ x∈p1,x.block < W.heap.size:=fun x hx=>hplt x (by simp[hx])
 refine⟨_,he,[d0,d1],[],_,[],p0++p1,[],hW',?_,?_,?_,hb.frame _,fun h=>by cases h⟩
 ·exact trodAll_mk1 (shut_bool Tryz.underlying4 true)
 ·exact trodAll_mk2 (hb.trod zm8 read22 row22 h0 lt0) (hb.trod zm8 read26 row26 h1 lt1)
 ·exact rfl
theorem e_place:(Rows.officeEventsRow.inPlace == Tryz.checked.prog.inPlace 3)=true:=by kernel_rfl
theorem e_unf:(Rows.officeEventsRow.unfollowed == Tryz.checked.prog.unfollowed 3)=true:=by kernel_rfl
theorem e_rec:(Rows.officeEventsRow.recurses == Tryz.checked.prog.recurses 3)=true:=by kernel_rfl
theorem e_named:(Rows.officeEventsRow.named == Tryz.checked.prog.varsNamed 3)=true:=by kernel_rfl
theorem e_lift:(Rows.officeEventsRow.lifted == Tryz.checked.prog.liftsFinal)=true:=by kernel_rfl
theorem e_make:(Tryz.checked.prog.make == some Rows.officeEventsRow.make)=true:=by kernel_rfl
theorem e_keys:(Rows.officeEventsRow.plainKeys == Tryz.checked.prog.plainKeys)=true:=by kernel_rfl
theorem e_goes:false=Rows.officeEventsRow.goesBy Tryz.checked.prog:=by kernel_rfl
theorem e_wf:Rows.officeEventsRow.wfByText (OpenSpec.ofChange Rows.officeEventsSpec)=true:=by kernel_rfl
theorem e_func:Tryz.checked.prog.funcNamed Rows.officeEventsRow.func=some 3:=by kernel_rfl
theorem e_wrap:Tryz.f3.isWrapper Tryz.checked.prog Rows.officeEventsRow.wrapper Rows.officeEventsRow.mainSum:=by
 unfold Func.isWrapper;rw[if_neg (of_decide_eq_false (by kernel_rfl))];exact⟨rfl,rfl⟩
theorem closed:joinedFacts Tryz.checked.prog 3 Tryz.f3 Rows.officeEventsSpec Rows.officeEventsRow=true:=by
 unfold joinedFacts
 simp only[Bool.and_eq_true,zmg,k_maps,k_enter,k_heard,e_place,e_unf,e_rec,e_named,e_lift,e_make,e_keys,and_true,true_and]
 (repeat' apply And.intro) <;> kernel_rfl
theorem said:Rows.OfficeEventsSaid :=
 OpenClaim.holds_of_wide 3 Tryz.f3 rfl rfl rfl rfl rfl rfl rfl ⟨rfl,rfl,rfl,rfl,rfl⟩ rfl rfl rfl rfl rfl e_func Tryz.func3 closed
  (of_decide_eq_true (by kernel_rfl)) e_wrap
  (fun os started H enc _=>lifted os started H enc)
theorem card_holds:Rows.OfficeEventsCardSaid :=
 Claim7.holds_tied_plain_at .later [] [.data,.data,.data,.data,.data,.widerDeep,.pinned] true (true, "955b595cc5385ef7a002e46dd68bcc84f6d549330109667ecef86e1e8b51a6b5") false
  said (fun _ h=>by cases h) e_wf (fun _ h=>by cases h) officeEvents_row_tie rfl ⟨rfl,rfl⟩ k_main rfl
  (fun f fn hf hfn=>by
   obtain rfl:f=3:=Option.some.inj ((show Tryz.prog.funcNamed "flyover/flyoverlaw10.OfficeEvents" = some 3 from e_func).symm.trans hf) |>.symm
   obtain rfl:fn=Tryz.f3:=(Option.some.inj (Tryz.func3.symm.trans hfn)).symm
   exact⟨k_looks,fun j t ht=>by
    rw[Tryz.params3] at ht
    have hm:t∈[22,26]:=by simpa using Array.mem_of_getElem? ht
    have hall:([22,26].all fun u=>!Tryz.prog.wantsStandIn u)=true:=by kernel_rfl
    exact(show Tryz.prog.wantsStandIn t=false by simpa using List.all_eq_true.1 hall t hm)⟩)
  e_goes
#print axioms card_holds
end Go.Proofs.YtkfbgillhhhdgaaGreatDoor
end
