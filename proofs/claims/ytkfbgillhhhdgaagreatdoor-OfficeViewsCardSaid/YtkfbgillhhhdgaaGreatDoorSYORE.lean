/- Part of a proof. No conditions. -/
import Derived.Test.YtkfbgillhhhdgaaGreatDoorSYORG
import Derived.Test.YtkfbgillhhhdgaaGreatDoorAT
import Derived.Test.YtkfbgillhhhdgaaGreatDoorSYOBI
import Derived.Test.YtkfbgillhhhdgaaGreatDoorAX
set_option linter.unusedSimpArgs false
set_option linter.unusedVariables false
section
set_option maxRecDepth 100000
set_option maxHeartbeats 1000000
namespace Go.Fly.Tryz
open Go Off Go.Proofs.Tryz
theorem zbS:Holds prog G0 206 k9:=by
 refine Holds.of_exC D206 func206 rfl zK (by kernel_rfl) (tab []) (zk trivial) zw fun k0 rl args hpu hpre=>?_
 unfold k9 at hpre ⊢
 obtain⟨s,rfl,hl⟩:=hpre
 simp only[zE,zF]
 have hsz:(⟨s.toArray⟩:ByteArray).size=s.length:=by simp[ByteArray.size]
 simp only[f206]
 rw[zb (Nat.le_of_ble_eq_true rfl)]
 simp(maxSteps:=4000000) only[go_sem,↓zj]
 refine⟨fun L o h=>(by cases h),fun L=>?_⟩
 refine zB.loopF (β:=Nat) [(2,4),(6,6),(9,28)] (fun i=>[(4,.int .i64 (valN s i))]) (fun i=>updH (fun _=>none) (0,L) (.raw (.stringIter ⟨s.toArray⟩ i))) (fun i=>i≤s.length∧(∀ j,j < i→digB (wI s j)=true)∧(0 < i→s.length≤9)) (fun i=>s.length - i) 0 ⟨by omega,fun j hj=>by omega,fun q=>by omega⟩ ?_ (zy.refl _) ?_
 ·simp(maxSteps:=400000) only[go_sem,↓zj]
  exact rfl
 ·intro ck i hck hI
  obtain⟨hi,hf,h9⟩:=hI
  have hv:=zko hf
  generalize hq:exC _ _ _ _ _=gg
  by_cases hlt:i < s.length
  ·have hge:¬ s.length≤i:=by omega
   obtain⟨c,hc⟩:∃ c,(Utf8.decode ⟨s.toArray⟩ i).1=c:=⟨_,rfl⟩
   have hcb:(wI s i=c∧c < 128∧(Utf8.decode ⟨s.toArray⟩ i).2=1)∨(128≤wI s i∧128≤c):=by
    by_cases hb:wI s i < 128
    ·have hd:=zcc hlt hb
     left
     rw[hd] at hc ⊢
     simp only at hc
     exact⟨hc,by omega,rfl⟩
    ·right
     have:=zfR hlt (Nat.not_lt.mp hb)
     rw[hc] at this
     exact⟨by omega,this⟩
   by_cases hdg:48≤c∧c≤57
   ·have f1:decide ((c:Int) < 48)=false:=decide_eq_false (by omega)
    have f2:decide ((57:Int) < (c:Int))=false:=decide_eq_false (by omega)
    rw[← hq]
    clear hq
    by_cases h10:9 < s.length
    ·have f3:decide ((9:Int) < (s.length:Int))=true:=decide_eq_true (by omega)
     simp(maxSteps:=400000) only[go_sem,↓zj,hsz,hlt,hge,hc,f1,f2,f3]
     exact zo.of_eq (by rw[zgX hlt (.inr h10)])
    ·have e:wI s i=c∧(Utf8.decode ⟨s.toArray⟩ i).2=1:=by
      rcases hcb with⟨e1,e2,e3⟩ | ⟨e1,e2⟩
      ·exact⟨e1,e3⟩
      ·omega
     have hp9:=pow10_le i (by omega)
     have w3264:(32 < 64∧IntKind.i64.signed=true)=True:=eq_true (by decide)
     have f3:decide ((9:Int) < (s.length:Int))=false:=decide_eq_false (by omega)
     simp(maxSteps:=400000) only[go_sem,↓zj,hsz,hlt,hge,hc,f1,f2,f3,w3264,if_true,e.2]
     refine⟨zn (by omega) (by omega),by simp[inK,IntKind.min,IntKind.max,IntKind.bits,IntKind.signed];omega,zn (by omega) (by omega),zn (by omega) (by omega),i+1,⟨hlt,fun j hj=>?_,fun _=>by omega⟩,by omega,?_,zy.upd zy.none ⟨_,zd _ _ _,ObjLe.refl _⟩⟩
     ·by_cases q:j=i
      ·rw[q,e.1]
       simp only[digB,Bool.and_eq_true,decide_eq_true_eq]
       exact hdg
      ·exact hf j (by omega)
     ·show _=V.int .i64 (10 * valN s i+((wI s i:Nat) - 48))
      rw[e.1]
   ·have hno:digB (wI s i)=false:=by
     rcases hcb with⟨e1,e2,e3⟩ | ⟨e1,e2⟩
     ·rw[e1]
      simp[digB]
      omega
     ·simp[digB]
      omega
    rw[← hq]
    clear hq
    by_cases q:c < 48
    ·have f1:decide ((c:Int) < 48)=true:=decide_eq_true (by omega)
     simp(maxSteps:=400000) only[go_sem,↓zj,hsz,hlt,hge,hc,f1]
     exact zo.of_eq (by rw[zgX hlt (.inl hno)])
    ·have f1:decide ((c:Int) < 48)=false:=decide_eq_false (by omega)
     have f2:decide ((57:Int) < (c:Int))=true:=decide_eq_true (by omega)
     simp(maxSteps:=400000) only[go_sem,↓zj,hsz,hlt,hge,hc,f1,f2]
     exact zo.of_eq (by rw[zgX hlt (.inl hno)])
  ·obtain rfl:i=s.length:=by omega
   rw[← hq]
   clear hq
   simp(maxSteps:=400000) only[go_sem,↓zj,hsz,Nat.lt_irrefl,Nat.le_refl]
   have h9':s.length≤9:=by
    by_cases q:0 < s.length
    ·exact h9 q
    ·omega
   have hE:intE s=(valN s s.length,decide (0 < s.length) && (decide (s.length=1) || !decide (wI s 0=48))):=by
    unfold intE
    rw[if_pos ⟨hf,h9'⟩]
   rw[hE]
   refine⟨fun h=>?_,fun h=>?_⟩
   ·have hs:s≠[]:=by simpa using h
    have hs0:0 < s.length:=List.length_pos_iff.2 hs
    refine⟨fun q=>⟨by omega,zo.of_eq ?_⟩,fun q=>zo.of_eq ?_⟩
    ·have q2:¬ s.length=1:=by omega
     have e0:(((s[0]?.getD 0).toNat:Nat):Int)=((wI s 0:Nat):Int):=by unfold wI;rw[List.getD_eq_getElem?_getD]
     have e1:decide (((wI s 0:Nat):Int)=48)=decide (wI s 0=48):=by rw[decide_eq_decide];omega
     rw[e0,e1,decide_eq_true hs0,decide_eq_false q2]
     simp
    ·have q2:s.length=1:=by omega
     rw[decide_eq_true hs0,decide_eq_true q2]
     rfl
   ·have hs:s=[]:=by simpa using h
    subst hs
    exact zo.of_eq rfl
theorem kw {Γ:FuncId→Option Contract}{r0:Option Nat}{k0:K}{H:Heap}{ck:Nat}(hX:(⟨prog,Γ,G0,r0,k0⟩:Cx).Ok){L:Loc}{v:V}{t:Tk}(hL:H L=some (.cells [v,.bool t.bad]))(hv:WsV v t.ws)(ht:t.Ok) :
 zp ⟨prog,Γ,G0,r0,k0⟩ H ck 218 [.ptr L 0] (fun r hp' ck'=>r=.str t.word.1∧hp'=updH H L (.cells [t.next,.bool t.word.2.bad])∧ck≤ck'):=by
 obtain⟨ws,bad⟩:=t
 obtain⟨hn,-⟩:=ht
 have hn:ws.length≤1000000:=hn
 refine zp.inline hX func218 rfl zK (D:=D218) (by kernel_rfl) (tab []) (zk trivial) fun k1=>?_
 simp only[f218]
 rw[zA (Nat.le_of_ble_eq_true rfl)]
 cases ws with
 | nil =>
   have hv:v=.nils∨v=.sl 0 1 fun i=>[.str (el [] i)]:=hv.imp (·.1) id
   rcases hv with rfl | rfl
   ·simp(maxSteps:=400000) only[go_sem,↓zj,hL]
    exact⟨rfl,yV,by omega⟩
   ·simp(maxSteps:=400000) only[go_sem,↓zj,hL]
    exact⟨rfl,yV,by omega⟩
 | cons w r =>
   have hv:v=.sl (r.length+1) 1 fun i=>[.str (el (w::r) i)]:=by
    rcases hv with⟨-,q⟩ | q
    ·cases q
    ·exact q
   subst hv
   have hn:r.length+1≤1000000:=hn
   have d0:decide (((r.length+1:Nat):Int)=0)=false:=decide_eq_false (by omega)
   have hel:el (w::r) 0=w:=rfl
   by_cases hw:w=[]
   ·have dw:decide (w=[])=true:=decide_eq_true hw
    simp(maxSteps:=400000) only[go_sem,↓zj,hL,d0,hel,dw]
    subst hw
    exact⟨by omega,rfl,yV,by omega⟩
   ·have dw:decide (w=[])=false:=decide_eq_false hw
    simp(maxSteps:=400000) only[go_sem,↓zj,hL,d0,hel,dw]
    have e1:(⟨w::r,bad⟩:Tk).word=(w,⟨r,bad⟩):=by unfold Tk.word;simp only;rw[if_neg hw]
    have e2:(⟨w::r,bad⟩:Tk).next=.sl r.length 1 fun i=>[.str (el r i)]:=by unfold Tk.next;simp only;rw[if_neg hw]
    refine⟨by omega,by omega,⟨by omega,by omega⟩,by rw[e1],?_,by omega⟩
    rw[e1,e2]
    congr 3
    simp only[ziM]
    rfl
theorem zlT {Γ:FuncId→Option Contract}{r0:Option Nat}{k0:K}{H:Heap}{ck:Nat}(hX:(⟨prog,Γ,G0,r0,k0⟩:Cx).Ok){L:Loc}{v:V}{t:Tk}(hL:H L=some (.cells [v,.bool t.bad]))(hv:WsV v t.ws)(ht:t.Ok) :
 zp ⟨prog,Γ,G0,r0,k0⟩ H ck 219 [.ptr L 0] (fun r hp' ck'=>r=.int .i64 t.num.1∧hp'=updH H L (.cells [t.next,.bool t.num.2.bad])∧ck≤ck'):=by
 refine zp.inline hX func219 rfl zK (D:=D219) (by kernel_rfl) (tab [(206,k9)]) (zk ⟨zbS,trivial⟩) fun k1=>?_
 simp only[f219]
 rw[zA (Nat.le_of_ble_eq_true rfl)]
 simp(maxSteps:=400000) only[go_sem,↓zj]
 refine .inl fun hX2=>(kw hX2 hL hv ht).mono fun r hp' ck' ⟨h1,h2,hck⟩=>?_
 subst h1
 subst h2
 have hwl:=ht.word.2
 have hnb:t.num.2.bad=(t.word.2.bad || !(intE t.word.1).2):=rfl
 cases hb:t.word.2.bad with
 | true =>
   simp(maxSteps:=400000) only[go_sem,↓zj,hb]
   exact⟨⟨_,rfl,by omega⟩,rfl,by rw[hnb,hb];exact yV,by omega⟩
 | false =>
   simp(maxSteps:=400000) only[go_sem,↓zj,hb]
   exact⟨⟨_,rfl,by omega⟩,rfl,by rw[hnb,hb];exact yV,by omega⟩
theorem zi4:Holds prog G0 130 za6:=by
 refine Holds.of_exC D130 func130 rfl zK (by kernel_rfl) (tab [(83,wX vV y9),(wrKey 41,zG),(wrKey 52,zG)]) (zk ⟨zY,za,za,trivial⟩) zw fun k0 rl args hpu hpre=>?_
 unfold za6 at hpre ⊢
 obtain⟨num,ws,rfl,hok⟩:=hpre
 simp only[zE,zV,wv,jZ]
 have hw1:=hok.word
 have hwt:WsV (zg ws) (⟨ws,false⟩:Tk).ws:=.inr rfl
 obtain⟨t1,ht1⟩:∃ t1,t1=(⟨ws,false⟩:Tk):=⟨_,rfl⟩
 have hev:evOf num ws=(match kindOf t1.word.1 with
  | none=>(⟨0,[],[],[],[]⟩,false)
  | some k=>(⟨num,t1.word.1,(t1.word.2.names k.letters.length).1,((t1.word.2.names k.letters.length).2.nums k.values).1,[]⟩,!((t1.word.2.names k.letters.length).2.nums k.values).2.bad && decide (((t1.word.2.names k.letters.length).2.nums k.values).2.ws.length=0))):=by
  rw[ht1]
  rfl
 have ht1o:t1.Ok:=by rw[ht1];exact hok
 have hwv:WsV (zg ws) t1.ws:=by rw[ht1];exact hwt
 have hb0:t1.bad=false:=by rw[ht1]
 rw[hev]
 simp only[f130]
 rw[zb (Nat.le_of_ble_eq_true rfl)]
 simp(maxSteps:=4000000) only[go_sem,↓zj]
 refine .inl fun hX=>(kw hX (t:=t1) (L:=(3,14)) (v:=zg ws) (by rw[hb0];simp[updH]) hwv ht1o).mono fun r hp' c ⟨h1,h2,hc⟩=>?_
 subst h1
 subst h2
 have hk0:¬ 0=c:=by omega
 have hc0:¬ c=0:=by omega
 have hc2:¬ c=2:=by omega
 have hc3:¬ c=3:=by omega
 have hc2':¬ 2=c:=by omega
 have hc3':¬ 3=c:=by omega
 cases hk:kindOf t1.word.1 with
 | none =>
   simp(maxSteps:=400000) only[go_sem,↓zj,hk]
   exact zo.tup ⟨zo.agg ⟨zo.refl _,zo.refl _,zo.nils _ _,zo.nils _ _,zo.refl _,trivial⟩,zo.refl _,trivial⟩
 | some k =>
   simp(maxSteps:=400000) only[go_sem,↓zj,hk]
   obtain⟨t2,ht2⟩:∃ t2,t2=t1.word.2:=⟨_,rfl⟩
   have ht2o:t2.Ok:=by rw[ht2];exact ht1o.word.1
   have hn2:=t1.next_ok
   rw[← ht2] at hn2 ⊢
   have hlet:k.letters.length≤2:=by cases k <;> decide
   have hasc:∀ i,i < k.letters.length→wI k.letters i < 128:=by cases k <;> decide
   have hsz:(⟨k.letters.toArray⟩:ByteArray).size=k.letters.length:=by simp[ByteArray.size]
   -- the words' cell behind i names
   obtain⟨cv,hcv⟩:∃ cv:Nat→V,cv=fun i=>match i with | 0=>t1.next | i+1=>(t2.names i).2.next:=⟨_,rfl⟩
   have hcw:∀ i,WsV (cv i) (t2.names i).2.ws:=fun i=>by
    rw[hcv]
    cases i with
    | zero=>exact hn2
    | succ i=>exact(t2.names i).2.next_ok
   refine⟨fun L o h=>by simp[updH,hk0] at h,fun L hL=>?_⟩
   refine zB.ents (wu.nilC (l:=(c+1+1+1+1,1000)) (l2:=(c,7)) (cs:=[.int .i64 num,.str t1.word.1,.nils,.nils,.str []]) (j:=2) 1 (fun j=>[.str (el (t2.names 0).1 j)]) (by simp) (by simp[updH,hc0,hk0]) rfl (by simp[updH,hc0]) rfl) ?_
   simp(maxSteps:=400000) only[go_sem,↓zj]
   refine zB.loopF (β:=Nat) [(36,44)] (fun i=>[]) (fun i=>updH (updH (updH (updH (updH (updH (fun _=>none) (2,4) (.cells [.int .i64 0,.str [],.nils,.nils,.str []])) (3,14) (.cells [cv i,.bool (t2.names i).2.bad])) (c,7) (.cells [.int .i64 num,.str t1.word.1,.msl (c+1+1+1+1,1000) 0 i,.nils,.str []])) (c+1,8) (.cells [.str k.letters,.int .i64 k.values,.fn (.func (vV k)) [] [],.fn (.func (y9 k)) [] []])) (c+1+1+1+1,1000) (.arr i 1 fun j=>[.str (el (t2.names i).1 j)])) (0,L) (.raw (.stringIter ⟨k.letters.toArray⟩ i))) (fun i=>i≤k.letters.length) (fun i=>k.letters.length - i) 0 (Nat.zero_le _) ?_ ?_ ?_
   ·simp(maxSteps:=400000) only[go_sem,↓zj]
   ·have hcv0:cv 0=t1.next:=by rw[hcv]
    refine zy.upd (zy.upd (zy.upd (zy.upd (zy.upd (zy.upd zy.none ⟨_,?_,ObjLe.refl _⟩) ⟨_,?_,ObjLe.refl _⟩) ⟨_,?_,ObjLe.refl _⟩) ⟨_,?_,ObjLe.refl _⟩) ⟨_,?_,ObjLe.refl _⟩) ⟨_,?_,ObjLe.refl _⟩
    all_goals simp(maxSteps:=400000) only[go_sem,↓zj,hk0,hc0,hc2,hc3,hc2',hc3',hcv0]
    all_goals rfl
   ·intro c2 i hc2 hi
    have hi:i≤k.letters.length:=hi
    generalize hq0:exC _ _ _ _ _=gg
    by_cases hlt:i < k.letters.length
    ·have hge:¬ k.letters.length≤i:=by omega
     have hdec:=zcc hlt (hasc i hlt)
     rw[← hq0]
     clear hq0
     simp(maxSteps:=400000) only[go_sem,↓zj,hsz,hlt,hge,hdec,hk0,hc0]
     refine WrQ.of (3,14) (.str (t2.names i).2.word.1) [(t2.names i).2.next,.bool (t2.names i).2.word.2.bad] (cs:=[cv i,.bool (t2.names i).2.bad]) rfl rfl rfl en218 (.str _) (fun u hu=>?_) (by simp[updH]) (fun hX2 hp2 h2=>(kw hX2 h2 (hcw i) (ht2o.names i)).mono fun _ _ _ h=>⟨h.1,h.2.1⟩) ?_
     ·simp only[List.mem_cons,List.not_mem_nil,or_false] at hu
      rcases hu with rfl | rfl
      ·exact Tk.next_pu _
      ·exact .bool _
     ·simp(maxSteps:=400000) only[go_sem,↓zj,hsz,hlt,hge,hdec,hk0,hc0,hc2',hc3']
      refine⟨⟨by omega,by omega,wG rfl yx⟩,by omega,i+1,hlt,by omega,?_⟩
      have hcv1:cv (i+1)=(t2.names i).2.next:=by rw[hcv]
      refine zy.upd (zy.upd (zy.upd (zy.upd (zy.upd (zy.upd zy.none ⟨_,?_,ObjLe.refl _⟩) ⟨_,?_,ObjLe.refl _⟩) ⟨_,?_,ObjLe.refl _⟩) ⟨_,?_,ObjLe.refl _⟩) ⟨.arr (i+1) 1 (fun j=>if j < i then [.str (el (t2.names i).1 j)] else wa [.str (t2.names i).2.word.1] 1 (0+(j - i))),?_,kR fun j hj=>vn (f:=fun s:Str=>[V.str s]) (l:=(t2.names i).1) (zbU t2 i).symm rfl hj⟩) ⟨_,?_,ObjLe.refl _⟩
      all_goals simp(maxSteps:=400000) only[go_sem,↓zj,hk0,hc0,hc2,hc3,hc2',hc3',hcv1]
      all_goals rfl
    ·obtain rfl:i=k.letters.length:=by omega
     rw[← hq0]
     clear hq0
     obtain⟨t3,ht3⟩:∃ t3,t3=(t2.names k.letters.length).2:=⟨_,rfl⟩
     obtain⟨nl,hnl⟩:∃ nl,nl=(t2.names k.letters.length).1:=⟨_,rfl⟩
     obtain⟨v3,hv3⟩:∃ v3,v3=cv k.letters.length:=⟨_,rfl⟩
     have hw3:WsV v3 t3.ws:=by rw[hv3,ht3];exact hcw _
     have ht3o:t3.Ok:=by rw[ht3];exact ht2o.names _
     have hnn:nl.length=k.letters.length:=by rw[hnl];exact zbU _ _
     rw[← ht3,← hnl,← hv3]
     simp(maxSteps:=400000) only[go_sem,↓zj,hsz,Nat.lt_irrefl,Nat.le_refl,hk0,hc0,hc2',hc3']
     have hc20:¬ c2=0:=by omega
     have hc02:¬ 0=c2:=by omega
     obtain⟨cw,hcw3⟩:∃ cw:Nat→V,cw=fun i=>match i with | 0=>v3 | i+1=>(t3.nums i).2.next:=⟨_,rfl⟩
     have hcx:∀ i,WsV (cw i) (t3.nums i).2.ws:=fun i=>by
      rw[hcw3]
      cases i with
      | zero=>exact hw3
      | succ i=>exact(t3.nums i).2.next_ok
     have g1:¬ c2+1+1=c:=by omega
     have g2:¬ c2+1+1=c+1:=by omega
     have g3:¬ c2+1+1=c+1+1+1+1:=by omega
     have g4:¬ c2+1+1=2:=by omega
     have g5:¬ c2+1+1=3:=by omega
     have g6:¬ c=c2+1+1:=by omega
     have g7:¬ c+1=c2+1+1:=by omega
     have g8:¬ c+1+1+1+1=c2+1+1:=by omega
     have g9:¬ 2=c2+1+1:=by omega
     have g10:¬ 3=c2+1+1:=by omega
     have hkv:k.values≤2:=by cases k <;> decide
     refine zB.ents (wu.nilC (l:=(c2+1+1,1000)) (l2:=(c,7)) (cs:=[.int .i64 num,.str t1.word.1,.msl (c+1+1+1+1,1000) 0 k.letters.length,.nils,.str []]) (j:=3) 1 (fun j=>[.int .i64 (el (t3.nums 0).1 j)]) (by simp[g6]) (by simp[updH,hc0,hk0]) rfl (by simp[updH,g1,g2,g3,g4,g5];omega) rfl) ?_
     simp(maxSteps:=400000) only[go_sem,↓zj]
     refine zB.loopF (β:=Nat) [(47,56)] (fun i=>[(47,.int .i64 i)]) (fun i=>updH (updH (updH (updH (updH (updH (fun _=>none) (2,4) (.cells [.int .i64 0,.str [],.nils,.nils,.str []])) (3,14) (.cells [cw i,.bool (t3.nums i).2.bad])) (c,7) (.cells [.int .i64 num,.str t1.word.1,.msl (c+1+1+1+1,1000) 0 k.letters.length,.msl (c2+1+1,1000) 0 i,.str []])) (c+1,8) (.cells [.str k.letters,.int .i64 k.values,.fn (.func (vV k)) [] [],.fn (.func (y9 k)) [] []])) (c+1+1+1+1,1000) (.arr k.letters.length 1 fun j=>[.str (el nl j)])) (c2+1+1,1000) (.arr i 1 fun j=>[.int .i64 (el (t3.nums i).1 j)])) (fun i=>i≤k.values) (fun i=>k.values - i) 0 (Nat.zero_le _) ?_ ?_ ?_
     ·simp(maxSteps:=400000) only[go_sem,↓zj]
      try exact rfl
     ·have hcw0:cw 0=v3:=by rw[hcw3]
      refine zy.upd (zy.upd (zy.upd (zy.upd (zy.upd (zy.upd zy.none ⟨_,?_,ObjLe.refl _⟩) ⟨_,?_,ObjLe.refl _⟩) ⟨_,?_,ObjLe.refl _⟩) ⟨_,?_,ObjLe.refl _⟩) ⟨_,?_,ObjLe.refl _⟩) ⟨_,?_,ObjLe.refl _⟩
      all_goals simp(maxSteps:=400000) only[go_sem,↓zj,hk0,hc0,hc2,hc3,hc2',hc3',hcw0,hc20,hc02,g1,g2,g3,g4,g5,g6,g7,g8,g9,g10]
      all_goals rfl
     ·intro c3 i hc3x hi
      have hi:i≤k.values:=hi
      generalize hq0:exC _ _ _ _ _=gg
      by_cases hlt:i < k.values
      ·have hd:decide ((i:Int) < (k.values:Int))=true:=decide_eq_true (by omega)
       rw[← hq0]
       clear hq0
       simp(maxSteps:=400000) only[go_sem,↓zj,hd,hk0,hc0,hc2',hc3',hc20,hc02,g1,g2,g3,g4,g5,g6,g7,g8,g9,g10]
       refine WrQ.of (3,14) (.int .i64 (t3.nums i).2.num.1) [(t3.nums i).2.next,.bool (t3.nums i).2.num.2.bad] (cs:=[cw i,.bool (t3.nums i).2.bad]) rfl rfl rfl en219 (.int _ _) (fun u hu=>?_) (by simp[updH,g10]) (fun hX2 hp2 h2=>(zlT hX2 h2 (hcx i) (ht3o.nums i)).mono fun _ _ _ h=>⟨h.1,h.2.1⟩) ?_
       ·simp only[List.mem_cons,List.not_mem_nil,or_false] at hu
        rcases hu with rfl | rfl
        ·exact Tk.next_pu _
        ·exact .bool _
       ·simp(maxSteps:=400000) only[go_sem,↓zj,hd,hk0,hc0,hc2',hc3',hc20,hc02,g1,g2,g3,g4,g5,g6,g7,g8,g9,g10]
        have g11:¬ c3+1+1=c2+1+1:=by omega
        refine⟨⟨by omega,by omega,wG rfl qG⟩,zn (by omega) (by omega),by omega,i+1,hlt,by omega,by rw[Int.natCast_add];rfl,?_⟩
        have hcw1:cw (i+1)=(t3.nums i).2.next:=by rw[hcw3]
        refine zy.upd (zy.upd (zy.upd (zy.upd (zy.upd (zy.upd zy.none ⟨_,?_,ObjLe.refl _⟩) ⟨_,?_,ObjLe.refl _⟩) ⟨_,?_,ObjLe.refl _⟩) ⟨_,?_,ObjLe.refl _⟩) ⟨_,?_,ObjLe.refl _⟩) ⟨.arr (i+1) 1 (fun j=>if j < i then [.int .i64 (el (t3.nums i).1 j)] else wa [.int .i64 (t3.nums i).2.num.1] 1 (0+(j - i))),?_,kR fun j hj=>vn (f:=fun s:Int=>[V.int .i64 s]) (l:=(t3.nums i).1) (zdP t3 i).symm rfl hj⟩
        all_goals simp(maxSteps:=400000) only[go_sem,↓zj,hk0,hc0,hc2,hc3,hc2',hc3',hcw1,hc20,hc02,g1,g2,g3,g4,g5,g6,g7,g8,g9,g10,g11]
        all_goals rfl
      ·have hd:decide ((i:Int) < (k.values:Int))=false:=decide_eq_false (by omega)
       obtain rfl:i=k.values:=by omega
       have hll:=(ht3o.nums k.values).1
       have hvn:=zdP t3 k.values
       have fin:∀ b,b=(!(t3.nums k.values).2.bad && decide ((t3.nums k.values).2.ws.length=0))→zo (.tup [.agg [.int .i64 num,.str t1.word.1,.sl k.letters.length 1 fun i=>[.str (el nl i)],.sl k.values 1 fun i=>[.int .i64 (el (t3.nums k.values).1 i)],.str []],.bool b]) (.tup [.agg (encEv ⟨num,t1.word.1,nl,(t3.nums k.values).1,[]⟩),.bool (!(t3.nums k.values).2.bad && decide ((t3.nums k.values).2.ws.length=0))]):=fun b hb=>by
        subst hb
        exact zo.tup ⟨zo.agg ⟨zo.refl _,zo.refl _,wP hnn.symm fun i _=>rfl,zbq hvn.symm fun i _=>rfl,zo.refl _,trivial⟩,zo.refl _,trivial⟩
       rcases hcx k.values with⟨q1,q2⟩ | q1
       ·rw[← hq0,q1]
        clear hq0
        simp(maxSteps:=400000) only[go_sem,↓zj,hd,hk0,hc0,hc2',hc3',hc20,hc02,g1,g2,g3,g4,g5,g6,g7,g8,g9,g10,Nat.zero_add]
        refine⟨fun h=>fin _ ?_,fun h=>fin _ ?_⟩
        ·rw[h,q2];rfl
        ·rw[h];rfl
       ·rw[← hq0,q1]
        clear hq0
        simp(maxSteps:=400000) only[go_sem,↓zj,hd,hk0,hc0,hc2',hc3',hc20,hc02,g1,g2,g3,g4,g5,g6,g7,g8,g9,g10,Nat.zero_add]
        refine⟨fun h=>fin _ ?_,fun h=>fin _ ?_⟩
        ·rw[h,Bool.true_and,decide_eq_decide];omega
        ·rw[h];rfl
end Go.Fly.Tryz
end
