/- Part of a proof. No conditions. -/
import Derived.Test.YtkfbgillhhhdgaaGreatDoorSYOTy
import Derived.KernelRfl
import Derived.Test.YtkfbgillhhhdgaaGreatDoorAH
set_option linter.unusedSimpArgs false
set_option linter.unusedVariables false
section
namespace Go.Fly.Tryz
open Go
def D4:zL
 | 12=>[[],[],[],[0,2],[],[],[0,2,3,5],[],[],[],[],[]]
 | _=>[]
def D5:zL
 | 9=>[[],[],[1],[1],[1,2,3],[1,2,3],[2,3],[1,2,3,4,5,6],[1,2,3,4,5,6],[],[],[],[],[],[]]
 | _=>[]
def D7:zL
 | 7=>[[],[],[],[],[],[],[2,3,4],[],[],[],[],[],[],[],[]]
 | _=>[]
def D15:zL
 | 28=>[[],[],[0],[],[]]
 | 34=>[[],[],[],[],[],[],[],[],[],[],[],[],[],[],[],[],[],[],[],[],[],[],[],[],[],[],[],[],[],[],[],[],[],[],[],[],[],[],[],[],[],[],[],[],[],[],[],[],[],[],[],[],[],[],[],[],[],[],[],[],[],[],[],[],[],[],[],[],[],[],[],[],[],[],[],[],[],[],[],[],[],[],[],[],[],[],[],[],[],[],[88],[88],[88],[],[],[],[],[],[],[97,98],[],[],[],[],[],[],[],[],[],[],[],[],[],[],[],[],[],[],[],[],[],[],[]]
 | _=>[]
def D16:zL
 | _=>[]
def D17:zL
 | _=>[]
def D18:zL
 | 1=>[[],[0],[0],[],[],[],[],[0,1,2,3],[],[]]
 | 2=>[[],[],[],[],[],[],[0,1,2,5],[0,1,2,5],[0,1,2,5],[0,1,2,5,6,7,8],[0,1,2,5,6,7,8],[0,1,2,5,6,7,8],[],[],[],[],[],[14,15,16],[14,15,16],[],[],[],[],[],[]]
 | _=>[]
def D19:zL
 | _=>[]
def D20:zL
 | 5=>[[],[],[],[2],[2],[2],[],[],[],[],[],[],[],[],[],[],[],[],[]]
 | _=>[]
def D21:zL
 | _=>[]
def D22:zL
 | _=>[]
def D24:zL
 | 4=>[[],[],[],[],[1,2],[1,2],[],[1,2],[1,2],[1,2],[],[],[],[],[],[],[]]
 | _=>[]
def D25:zL
 | 4=>[[],[],[],[],[1,2],[1,2],[],[1,2],[1,2],[1,2],[],[],[]]
 | _=>[]
def D26:zL
 | 5=>[[],[],[],[0,1,2],[0,1,2],[0,1,2],[],[0,1,2],[0,1,2],[0,1,2],[]]
 | 7=>[[],[0],[0],[0],[0,1,2,3],[0,1,2,3],[0,1,2,3],[0],[],[],[],[0,1,2,3,4,5,6,7,8,9,10],[0,1,2,3,4,5,6,7,8,9,10],[],[],[],[]]
 | _=>[]
def D27:zL
 | 11=>[[],[],[],[],[],[1],[1],[],[]]
 | 18=>[[],[],[],[0],[0],[],[]]
 | _=>[]
def D28:zL
 | _=>[]
def D29:zL
 | _=>[]
def D30:zL
 | _=>[]
def D31:zL
 | 5=>[[],[],[],[],[],[],[],[1,2,4,5,6],[1,2,4,5,6,7],[1,2,4,5,6,7],[],[1,2,4,5,6,7],[1,2,4,5,6,7],[1,2,4,5,6,7,8,9,11,12],[1,2,4,5,6,7,8,9,11,12],[],[1,2,4,5,6,7,8,9,11,12],[1,2,4,5,6,7,8,9,11,12],[1,2,4,5,6],[],[],[],[]]
 | _=>[]
def D32:zL
 | 9=>[[],[],[],[],[],[],[0,1,3,4,5],[0,1,3,4,5],[],[0,1,3,4,5],[0,1,3,4,5],[0,1,3,4,5],[]]
 | 10=>[[],[],[1],[1],[],[1],[1],[1,2,3,5,6],[1,2,3,5,6],[],[1,2,3,5,6],[1,2,3,5,6],[],[],[]]
 | _=>[]
def D33:zL
 | _=>[]
def D34:zL
 | _=>[]
def D35:zL
 | 6=>[[],[],[],[],[],[],[2,3],[2,3],[]]
 | _=>[]
def D36:zL
 | _=>[]
def D37:zL
 | 4=>[[],[],[],[],[1,2],[1,2],[],[1,2],[1,2],[1,2],[],[]]
 | 8=>[[],[],[],[],[],[],[],[],[],[],[],[],[],[],[],[],[],[13,14],[13,14],[],[]]
 | _=>[]
def D38:zL
 | _=>[]
def D39:zL
 | 5=>[[],[],[],[],[],[],[],[],[],[],[],[],[],[],[],[],[],[13,14],[13,14],[],[]]
 | _=>[]
def D40:zL
 | _=>[]
def D41:zL
 | 8=>[[],[],[],[],[],[],[],[],[],[],[],[],[2,3,4,5,7,8,9],[],[],[],[]]
 | _=>[]
def D42:zL
 | _=>[]
def D43:zL
 | _=>[]
def D44:zL
 | _=>[]
def D46:zL
 | _=>[]
def D47:zL
 | _=>[]
def D48:zL
 | _=>[]
def D49:zL
 | _=>[]
def D50:zL
 | _=>[]
def D51:zL
 | 6=>[[],[],[],[],[],[],[],[6],[6],[],[6],[6],[6],[],[],[]]
 | _=>[]
def D52:zL
 | _=>[]
def D53:zL
 | _=>[]
def D54:zL
 | _=>[]
def D55:zL
 | 2=>[[],[],[],[1,2],[1,2],[],[1,2,3,4],[],[],[],[],[],[]]
 | _=>[]
def D56:zL
 | _=>[]
def D60:zL
 | _=>[]
def D61:zL
 | _=>[]
def D62:zL
 | 6=>[[],[],[],[],[],[],[2,3],[2,3],[]]
 | _=>[]
def D69:zL
 | 7=>[[],[],[0],[0],[],[],[],[],[0,2,3,4],[],[]]
 | 9=>[[],[],[],[1],[],[],[],[],[]]
 | 10=>[[],[],[0],[0],[],[],[],[],[0,2,3,4],[],[]]
 | 14=>[[],[],[],[],[2],[2],[2],[2],[2],[],[],[],[],[]]
 | 20=>[[],[],[],[1,2],[],[]]
 | 23=>[[1],[],[],[],[1,2]]
 | _=>[]
def D71:zL
 | 1=>[[],[],[],[0,1],[],[],[],[],[]]
 | _=>[]
def D73:zL
 | _=>[]
def D76:zL
 | _=>[]
def D77:zL
 | _=>[]
def D78:zL
 | _=>[]
def D79:zL
 | _=>[]
def D80:zL
 | 6=>[[],[],[],[],[],[],[2,3],[2,3],[]]
 | _=>[]
def D81:zL
 | _=>[]
def D82:zL
 | _=>[]
def D83:zL
 | _=>[]
def D84:zL
 | _=>[]
def D85:zL
 | _=>[]
def D86:zL
 | _=>[]
def D87:zL
 | _=>[]
def D88:zL
 | _=>[]
def D89:zL
 | _=>[]
def D90:zL
 | _=>[]
def D91:zL
 | _=>[]
def D92:zL
 | _=>[]
def D93:zL
 | _=>[]
def D94:zL
 | _=>[]
def D95:zL
 | 1=>[[],[],[],[0,1],[0,1],[0,1],[0,1],[],[]]
 | 6=>[[],[],[],[],[],[1,2,3],[1,2,3],[1,2,3],[1,2,3],[],[],[],[],[]]
 | 8=>[[],[],[],[],[],[0,1,2,3],[0,1,2,3],[0,1,2,3],[0,1,2,3],[]]
 | 10=>[[],[0],[0],[],[0,1,2,3],[]]
 | 11=>[[],[],[],[1,2],[1,2,3],[],[]]
 | 14=>[[2],[],[],[],[0,1],[0,1],[0,1,3,4]]
 | _=>[]
def D96:zL
 | 8=>[[],[],[],[],[0,1,2,3],[0,1,2,3],[],[],[0,1,2,3,4,5,7],[0,1,2,3,4,5,7,8],[],[],[],[]]
 | _=>[]
def D98:zL
 | _=>[]
def D99:zL
 | _=>[]
def D100:zL
 | _=>[]
def D101:zL
 | 1=>[[],[],[],[],[],[],[1,2,3],[],[]]
 | _=>[]
def D102:zL
 | _=>[]
def D103:zL
 | _=>[]
def D104:zL
 | _=>[]
def D105:zL
 | _=>[]
def D106:zL
 | 5=>[[],[],[],[0],[0],[],[]]
 | _=>[]
def D107:zL
 | 4=>[[],[],[0,1],[0,1],[0,1],[0,1],[0,1,2,3,4,5],[0,1,2,3,4,5],[0,1,2,3,4,5],[0,1,2,3,4,5],[],[0,1],[],[],[]]
 | 7=>[[],[],[0,1],[0,1],[0,1],[0,1],[0,1,2,3,4,5],[0,1,2,3,4,5],[0,1,2,3,4,5],[0,1,2,3,4,5],[],[0,1],[],[],[]]
 | 10=>[[],[],[0,1],[0,1],[0,1],[0,1],[0,1,2,3,4,5],[0,1,2,3,4,5],[0,1,2,3,4,5],[0,1,2,3,4,5],[0,1,2,3,4,5,6,7,8,9],[0,1,2,3,4,5,6,7,8,9],[0,1,2,3,4,5,6,7,8,9],[0,1,2,3,4,5,6,7,8,9],[0,1,2,3,4,5,6,7,8,9,10,11,12,13],[0,1,2,3,4,5,6,7,8,9,10,11,12,13],[0,1,2,3,4,5,6,7,8,9,10,11,12,13],[0,1,2,3,4,5,6,7,8,9,10,11,12,13],[],[0,1],[],[],[]]
 | 13=>[[],[],[0,1],[0,1,2],[0,1,2],[0,1,2],[0,1,2],[0,1],[0,1,2,3,4,5,6,7],[0,1,2,3,4,5,6,7],[0,1,2,3,4,5,6,7],[0,1,2,3,4,5,6,7],[],[],[]]
 | 16=>[[],[],[0,1],[0,1,2],[0,1,2],[0,1,2],[0,1,2],[0,1],[0,1,2,3,4,5,6,7],[0,1,2,3,4,5,6,7],[0,1,2,3,4,5,6,7],[0,1,2,3,4,5,6,7],[],[],[]]
 | 24=>[[],[],[0,1],[0,1],[0,1],[0,1],[0,1,2,3,4,5],[0,1,2,3,4,5],[0,1,2,3,4,5],[0,1,2,3,4,5],[],[],[0,1],[],[],[]]
 | 27=>[[],[],[0,1],[0,1],[0,1],[0,1],[0,1,2,3,4,5],[0,1,2,3,4,5],[0,1,2,3,4,5],[0,1,2,3,4,5],[0,1,2,3,4,5,6,7,8,9],[0,1,2,3,4,5,6,7,8,9],[0,1,2,3,4,5,6,7,8,9],[0,1,2,3,4,5,6,7,8,9],[],[0,1],[],[],[]]
 | 30=>[[],[],[0,1],[0,1],[0,1],[0,1],[],[],[]]
 | 33=>[[],[0],[0],[0],[0],[],[]]
 | 35=>[[],[],[0,1],[0,1],[],[0,1],[0,1],[0,1],[],[],[]]
 | 38=>[[],[],[0,1],[0,1],[0,1],[0,1],[0,1,2,3,4,5],[0,1,2,3,4,5],[0,1,2,3,4,5],[0,1,2,3,4,5],[0,1,2,3,4,5,6,7,8,9],[0,1,2,3,4,5,6,7,8,9],[0,1,2,3,4,5,6,7,8,9],[0,1,2,3,4,5,6,7,8,9],[0,1,2,3,4,5,6,7,8,9,10,11,12,13],[0,1,2,3,4,5,6,7,8,9,10,11,12,13],[0,1,2,3,4,5,6,7,8,9,10,11,12,13],[0,1,2,3,4,5,6,7,8,9,10,11,12,13],[],[0,1],[],[],[]]
 | 40=>[[],[0],[0],[0],[0],[],[]]
 | 41=>[[],[],[],[0,1],[0,1],[0,1],[0,1],[],[],[]]
 | 43=>[[],[],[],[0,1],[0,1],[0,1],[0,1],[],[],[]]
 | _=>[]
def D108:zL
 | 1=>[[],[],[0,1],[0,1,2],[0,1,2],[0,1],[],[],[0,1,2,3,4,5,6,7],[]]
 | _=>[]
def D109:zL
 | _=>[]
def D110:zL
 | 1=>[[],[],[],[],[],[],[1,2,3],[],[]]
 | _=>[]
def D112:zL
 | _=>[]
def D113:zL
 | _=>[]
def D114:zL
 | _=>[]
def D115:zL
 | _=>[]
def D116:zL
 | _=>[]
def D117:zL
 | _=>[]
def D118:zL
 | _=>[]
def D119:zL
 | _=>[]
def D120:zL
 | _=>[]
def D124:zL
 | _=>[]
def D127:zL
 | _=>[]
def D128:zL
 | _=>[]
def D129:zL
 | 9=>[[],[],[],[],[],[],[],[],[],[],[],[],[],[10,11,12],[10,11,12],[],[],[],[],[]]
 | 11=>[[2],[],[],[],[0,1],[0,1],[0,1],[]]
 | _=>[]
def D130:zL
 | 3=>[[],[0],[0],[],[],[],[],[0,1,2,3],[],[]]
 | 9=>[[],[],[],[0,1],[0,1],[],[],[]]
 | 12=>[[],[],[],[0,1],[0,1],[],[],[]]
 | 14=>[[],[],[0],[0],[0],[],[],[],[0],[0],[0],[0],[],[],[8,9,10,11],[]]
 | _=>[]
def D131:zL
 | 2=>[[],[],[],[],[],[2,3,4],[2,3,4],[],[],[],[]]
 | 4=>[[],[],[],[],[],[],[2,3,4],[2,3,4],[2,3,4],[2,3,4],[],[],[],[],[]]
 | 6=>[[],[],[],[],[],[2,3,4],[2,3,4],[],[],[],[]]
 | 7=>[[1],[],[],[],[1,2]]
 | _=>[]
def D135:zL
 | 1=>[[],[],[],[],[0,1,2],[0,1,2],[],[]]
 | _=>[]
def D136:zL
 | _=>[]
def D138:zL
 | 1=>[[],[],[],[],[0,1,2,3],[0,1,2,3],[0,1,2,3],[0,1,2,3],[],[]]
 | _=>[]
def D140:zL
 | _=>[]
def D142:zL
 | _=>[]
def D143:zL
 | _=>[]
def D144:zL
 | 1=>[[],[],[],[],[],[],[0,1,2,3,4],[0,1,2,3,4],[0,1,2,3,4],[0,1,2,3,4],[],[],[],[],[]]
 | _=>[]
def D145:zL
 | 1=>[[],[],[],[],[],[2,3,4],[2,3,4],[2,3,4],[2,3,4],[2,3,4,5,6,7,8],[2,3,4,5,6,7,8],[2,3,4,5,6,7,8],[2,3,4,5,6,7,8],[],[2,3,4],[],[],[],[]]
 | _=>[]
def D146:zL
 | 1=>[[],[],[],[],[],[],[0,1,2,3,4],[0,1,2,3,4],[0,1,2,3,4],[0,1,2,3,4],[],[],[],[],[]]
 | _=>[]
def D147:zL
 | 1=>[[],[],[],[],[],[2,3,4],[2,3,4],[2,3,4],[2,3,4],[2,3,4,5,6,7,8],[2,3,4,5,6,7,8],[2,3,4,5,6,7,8],[2,3,4,5,6,7,8],[],[2,3,4],[],[],[],[]]
 | _=>[]
def D148:zL
 | 1=>[[],[],[],[],[],[],[0,1,2,3,4],[0,1,2,3,4],[0,1,2,3,4],[0,1,2,3,4],[],[],[],[],[]]
 | _=>[]
def D149:zL
 | 1=>[[],[],[],[],[],[2,3,4],[2,3,4],[2,3,4],[2,3,4],[2,3,4,5,6,7,8],[2,3,4,5,6,7,8],[2,3,4,5,6,7,8],[2,3,4,5,6,7,8],[2,3,4,5,6,7,8,9,10,11,12],[2,3,4,5,6,7,8,9,10,11,12],[2,3,4,5,6,7,8,9,10,11,12],[2,3,4,5,6,7,8,9,10,11,12],[2,3,4,5,6,7,8,9,10,11,12,13,14,15,16],[2,3,4,5,6,7,8,9,10,11,12,13,14,15,16],[2,3,4,5,6,7,8,9,10,11,12,13,14,15,16],[2,3,4,5,6,7,8,9,10,11,12,13,14,15,16],[],[2,3,4],[],[],[],[]]
 | _=>[]
def D150:zL
 | 1=>[[],[],[],[],[],[],[0,1,2,3,4],[0,1,2,3,4],[0,1,2,3,4],[0,1,2,3,4],[],[],[],[],[],[],[],[]]
 | _=>[]
def D151:zL
 | 1=>[[],[],[],[],[],[],[1,2,3],[],[]]
 | _=>[]
def D152:zL
 | _=>[]
def D153:zL
 | 1=>[[],[],[],[],[],[],[1,2,3,4,5],[1,2,3,4,5],[1,2,3,4,5],[1,2,3,4,5],[],[],[]]
 | _=>[]
def D154:zL
 | 1=>[[],[],[],[],[],[],[0,1,2,3,4],[0,1,2,3,4],[0,1,2,3,4],[0,1,2,3,4],[],[],[],[],[],[],[]]
 | _=>[]
def D155:zL
 | _=>[]
def D156:zL
 | 1=>[[],[],[],[],[],[],[1,2,3,4,5],[1,2,3,4,5],[1,2,3,4,5],[1,2,3,4,5],[],[],[]]
 | _=>[]
def D157:zL
 | 1=>[[],[],[],[],[],[],[1,2,3],[],[]]
 | _=>[]
def D158:zL
 | 1=>[[],[],[],[],[],[],[],[],[1,2,3,4,6],[1,2,3,4,6],[1,2,3,4,6],[1,2,3,4,6],[],[],[],[],[]]
 | _=>[]
def D159:zL
 | 1=>[[],[],[],[],[],[2,3,4],[2,3,4],[2,3,4],[2,3,4],[2,3,4,5,6,7,8],[2,3,4,5,6,7,8],[2,3,4,5,6,7,8],[2,3,4,5,6,7,8],[],[2,3,4,5,6,7,8,9,10,11,12],[2,3,4,5,6,7,8,9,10,11,12],[2,3,4,5,6,7,8,9,10,11,12],[],[],[2,3,4,5,6,7,8,9,10,11,12],[],[2,3,4],[],[],[],[]]
 | _=>[]
def D160:zL
 | _=>[]
def D161:zL
 | _=>[]
def D162:zL
 | 1=>[[],[],[],[],[],[],[0,1,2,3,4],[0,1,2,3,4],[0,1,2,3,4],[0,1,2,3,4],[],[],[],[0,1,2,3,4,6,7,8,9,11],[0,1,2,3,4,6,7,8,9,11],[0,1,2,3,4,6,7,8,9,11],[0,1,2,3,4,6,7,8,9,11],[],[],[],[],[0,1,2,3,4,6,7,8,9,11,13,14,15,16,17,19],[0,1,2,3,4,6,7,8,9,11,13,14,15,16,17,19],[0,1,2,3,4,6,7,8,9,11,13,14,15,16,17,19],[0,1,2,3,4,6,7,8,9,11,13,14,15,16,17,19],[],[],[],[0,1,2,3,4,6,7,8,9,11,13,14,15,16,17,19,21,22,23,24,25,26],[0,1,2,3,4,6,7,8,9,11,13,14,15,16,17,19,21,22,23,24,25,26],[0,1,2,3,4,6,7,8,9,11,13,14,15,16,17,19,21,22,23,24,25,26],[0,1,2,3,4,6,7,8,9,11,13,14,15,16,17,19,21,22,23,24,25,26],[],[],[],[],[]]
 | _=>[]
def D163:zL
 | _=>[]
def D164:zL
 | _=>[]
def D165:zL
 | 1=>[[],[],[],[],[],[2,3,4],[2,3,4],[2,3,4],[2,3,4],[2,3,4,5,6,7,8],[2,3,4,5,6,7,8],[2,3,4,5,6,7,8],[2,3,4,5,6,7,8],[2,3,4,5,6,7,8,9,10,11,12],[2,3,4,5,6,7,8,9,10,11,12],[2,3,4,5,6,7,8,9,10,11,12],[2,3,4,5,6,7,8,9,10,11,12],[],[2,3,4],[],[],[],[]]
 | _=>[]
def D166:zL
 | 1=>[[],[],[],[],[],[],[0,1,2,3,4],[0,1,2,3,4],[0,1,2,3,4],[0,1,2,3,4,6,7,8],[0,1,2,3,4,6,7,8],[0,1,2,3,4,6,7,8],[0,1,2,3,4,6,7,8],[],[],[],[],[],[]]
 | _=>[]
def D167:zL
 | 1=>[[],[],[],[],[1,2,3],[1,2,3],[1,2,3],[1,2,3],[],[],[],[]]
 | _=>[]
def D168:zL
 | 2=>[[],[],[],[],[],[],[1,2,3,4],[1,2,3,4],[1,2,3,4],[],[1,2,3,4,6,7,8],[1,2,3,4,6,7,8],[1,2,3,4,6,7,8],[],[],[],[],[]]
 | _=>[]
def D169:zL
 | 1=>[[],[],[],[],[],[],[1,2,3],[],[]]
 | _=>[]
def D170:zL
 | 3=>[[],[],[],[],[],[1,2,3],[1,2,3],[1,2,3],[],[],[],[]]
 | _=>[]
def D171:zL
 | 1=>[[],[],[],[],[],[],[0,1,2,3,4],[0,1,2,3,4],[0,1,2,3,4],[0,1,2,3,4],[],[],[],[],[]]
 | _=>[]
def D172:zL
 | 1=>[[],[],[],[],[],[2,3,4],[2,3,4],[2,3,4],[2,3,4],[2,3,4,5,6,7,8],[2,3,4,5,6,7,8],[2,3,4,5,6,7,8],[2,3,4,5,6,7,8],[2,3,4,5,6,7,8,9,10,11,12],[2,3,4,5,6,7,8,9,10,11,12],[2,3,4,5,6,7,8,9,10,11,12],[2,3,4,5,6,7,8,9,10,11,12],[2,3,4,5,6,7,8,9,10,11,12,13,14,15,16],[2,3,4,5,6,7,8,9,10,11,12,13,14,15,16],[2,3,4,5,6,7,8,9,10,11,12,13,14,15,16],[2,3,4,5,6,7,8,9,10,11,12,13,14,15,16],[],[2,3,4],[],[],[],[]]
 | _=>[]
def D173:zL
 | 2=>[[],[],[],[],[],[],[],[1,2,3,5],[1,2,3,5],[1,2,3,5],[1,2,3,5],[],[],[],[],[],[1,2,3,5,7,8,9,10,11,12,13,14],[1,2,3,5,7,8,9,10,11,12,13,14],[1,2,3,5,7,8,9,10,11,12,13,14],[],[],[],[],[]]
 | _=>[]
def D174:zL
 | 1=>[[],[],[],[],[],[],[1,2,3],[],[]]
 | _=>[]
def D175:zL
 | 2=>[[],[],[],[],[],[],[2,3,4,5],[2,3,4,5],[2,3,4,5],[2,3,4,5],[],[],[],[],[],[]]
 | _=>[]
def D176:zL
 | 2=>[[],[],[],[],[],[],[],[],[1,2,3,5],[1,2,3,5],[1,2,3,5],[],[],[],[],[]]
 | _=>[]
def D177:zL
 | _=>[]
def D178:zL
 | 1=>[[],[],[],[],[],[],[1,2,3,4,5],[1,2,3,4,5],[1,2,3,4,5],[1,2,3,4,5],[],[],[]]
 | _=>[]
def D181:zL
 | _=>[]
def D182:zL
 | _=>[]
def D183:zL
 | 9=>[[],[],[],[2],[2],[],[2],[2],[],[]]
 | _=>[]
def D184:zL
 | 5=>[[],[],[],[],[],[],[],[],[],[],[7],[7],[7,10,11],[7,10,11],[],[7,10,11],[7,10,11],[],[],[]]
 | 7=>[[],[],[],[],[],[],[],[],[],[],[],[],[],[11],[11],[11,13,14],[11,13,14],[11,13,14],[11,13,14],[],[],[],[]]
 | _=>[]
def D185:zL
 | 2=>[[],[],[],[],[],[],[0,1,2,3,5],[0,1,2,3,5],[0,1,2,3,5],[],[],[],[],[]]
 | 4=>[[],[],[],[],[],[],[0,1,2,3,5],[0,1,2,3,5],[0,1,2,3,5],[],[],[],[],[]]
 | 6=>[[],[],[],[],[],[],[0,1,2,3,5],[0,1,2,3,5],[0,1,2,3,5],[],[],[],[],[]]
 | 8=>[[],[],[],[],[],[],[0,1,2,3,5],[0,1,2,3,5],[0,1,2,3,5,6,7],[0,1,2,3,5,6,7,8],[0,1,2,3,5,6,7,8],[0,1,2,3,5,6,7,8],[0,1,2,3,5,6,7,8],[6,7],[],[],[],[],[],[],[],[]]
 | 10=>[[],[0],[0],[0],[0],[],[],[],[],[],[]]
 | 13=>[[],[],[],[],[],[0,1,2,4],[0,1,2,4],[0,1,2,4],[],[],[],[],[]]
 | 15=>[[],[0],[0,1],[0,1],[0,1],[0,1],[0],[],[],[],[],[],[]]
 | 16=>[[],[],[],[],[],[0,1,2,3,4],[0,1,2,3,4],[0,1,2,3,4],[],[],[],[],[],[],[],[],[],[0,1,2,3,4,5,6,7,9,16],[0,1,2,3,4,5,6,7,9,16,17],[0,1,2,3,4,5,6,7,9,16,17],[0,1,2,3,4,5,6,7,9,16,17],[0,1,2,3,4,5,6,7,9,16,17],[],[],[0,1,2,3,4,5,6,7,9,16,17,18,19,20,21,22,23],[0,1,2,3,4,5,6,7,9,16,17,18,19,20,21,22,23],[0,1,2,3,4,5,6,7,9,16,17,18,19,20,21,22,23],[],[],[],[],[]]
 | 18=>[[],[],[],[],[],[0,1,2,3,4],[0,1,2,3,4],[0,1,2,3,4,5,6],[0,1,2,3,4,5,6],[0,1,2,3,4,5,6],[0,1,2,3,4,5,6],[],[],[],[],[],[]]
 | 20=>[[],[],[0,1],[0,1,2],[0,1,2],[0,1,2],[0,1,2],[0,1],[],[],[0,1,2,3,4,5,6,7,8,9],[]]
 | 21=>[[],[],[],[0,1,2],[0,1,2],[0,1,2,3,4],[0,1,2,3,4],[],[],[],[],[]]
 | 23=>[[],[],[],[],[],[],[0,1,2,3,5],[0,1,2,3,5],[0,1,2,3,5],[],[],[],[],[]]
 | 24=>[[],[],[0,1],[0,1,2],[0,1,2],[0,1,2],[0,1,2],[0,1],[],[],[0,1,2,3,4,5,6,7,8,9],[]]
 | 26=>[[],[],[],[],[0,1,3],[0,1,3],[0,1,3,4,5],[0,1,3,4,5,6],[0,1,3,4,5,6],[0,1,3,4,5,6],[0,1,3,4,5,6],[4,5],[],[],[],[0,1,3,4,5,6,7,8,9,10,11,12,13,14],[0,1,3,4,5,6,7,8,9,10,11,12,13,14],[],[],[],[],[]]
 | 27=>[[],[],[],[],[0,1,3],[0,1,3,4],[0,1,3,4],[],[],[],[],[]]
 | _=>[]
def D186:zL
 | _=>[]
def D187:zL
 | _=>[]
def D188:zL
 | 4=>[[2],[],[],[],[1],[1],[1],[],[1,3,4,5],[1,3,4,5],[1,3,4,5],[],[1,3,4,5,7,8,9],[1,3,4,5,7,8,9],[],[],[]]
 | _=>[]
def D189:zL
 | _=>[]
def D190:zL
 | _=>[]
def D191:zL
 | _=>[]
def D192:zL
 | _=>[]
def D194:zL
 | _=>[]
def D195:zL
 | _=>[]
def D196:zL
 | _=>[]
def D197:zL
 | _=>[]
def D198:zL
 | _=>[]
def D199:zL
 | _=>[]
def D200:zL
 | _=>[]
def D201:zL
 | 1=>[[],[],[],[0,1,2],[0,1,2],[],[0,1,2,3,4,5],[0,1,2,3,4,5],[],[]]
 | _=>[]
def D202:zL
 | _=>[]
def D206:zL
 | 8=>[[],[],[],[],[],[],[],[],[],[],[],[],[],[],[]]
 | _=>[]
def D208:zL
 | 1=>[[1],[],[0],[0],[],[],[],[0,1,2,3]]
 | _=>[]
def D209:zL
 | _=>[]
def D214:zL
 | _=>[]
def D218:zL
 | _=>[]
def D219:zL
 | _=>[]
def D225:zL
 | _=>[]
def D226:zL
 | _=>[]
def D227:zL
 | 3=>[[],[],[],[],[],[1,2,3],[1,2,3],[1,2,3],[1,2,3],[],[],[],[],[]]
 | _=>[]
def D228:zL
 | _=>[]
def D229:zL
 | _=>[]
def D230:zL
 | _=>[]
def D231:zL
 | _=>[]
def D232:zL
 | _=>[]
def D233:zL
 | _=>[]
def D234:zL
 | _=>[]
def D235:zL
 | _=>[]
def D236:zL
 | _=>[]
def D237:zL
 | _=>[]
def D238:zL
 | _=>[]
def D239:zL
 | _=>[]
def D240:zL
 | _=>[]
def D241:zL
 | _=>[]
def D242:zL
 | _=>[]
def D243:zL
 | _=>[]
def D244:zL
 | _=>[]
def D245:zL
 | _=>[]
def D247:zL
 | _=>[]
def D255:zL
 | _=>[]
def D256:zL
 | _=>[]
def D257:zL
 | _=>[]
def D272:zL
 | _=>[]
attribute [go_sem] D4 D5 D7 D15 D16 D17 D18 D19 D20 D21 D22 D24 D25 D26 D27 D28 D29 D30 D31 D32 D33 D34 D35 D36 D37 D38 D39 D40 D41 D42 D43 D44 D46 D47 D48 D49 D50 D51 D52 D53 D54 D55 D56 D60 D61 D62 D69 D71 D73 D76 D77 D78 D79 D80 D81 D82 D83 D84 D85 D86 D87 D88 D89 D90 D91 D92 D93 D94 D95 D96 D98 D99 D100 D101 D102 D103 D104 D105 D106 D107 D108 D109 D110 D112 D113 D114 D115 D116 D117 D118 D119 D120 D124 D127 D128 D129 D130 D131 D135 D136 D138 D140 D142 D143 D144 D145 D146 D147 D148 D149 D150 D151 D152 D153 D154 D155 D156 D157 D158 D159 D160 D161 D162 D163 D164 D165 D166 D167 D168 D169 D170 D171 D172 D173 D174 D175 D176 D177 D178 D181 D182 D183 D184 D185 D186 D187 D188 D189 D190 D191 D192 D194 D195 D196 D197 D198 D199 D200 D201 D202 D206 D208 D209 D214 D218 D219 D225 D226 D227 D228 D229 D230 D231 D232 D233 D234 D235 D236 D237 D238 D239 D240 D241 D242 D243 D244 D245 D247 D255 D256 D257 D272
end Go.Fly.Tryz
end
section
namespace Go.Fly.Tryz
open Go Go.Proofs.Tryz
theorem en4:zl prog 4:=ze func4 rfl rfl
theorem en5:zl prog 5:=ze func5 rfl rfl
theorem en7:zl prog 7:=ze func7 rfl rfl
theorem en15:zl prog 15:=ze func15 rfl rfl
theorem en16:zl prog 16:=ze func16 rfl rfl
theorem en17:zl prog 17:=ze func17 rfl rfl
theorem en18:zl prog 18:=ze func18 rfl rfl
theorem en19:zl prog 19:=ze func19 rfl rfl
theorem en20:zl prog 20:=ze func20 rfl rfl
theorem en21:zl prog 21:=ze func21 rfl rfl
theorem en22:zl prog 22:=ze func22 rfl rfl
theorem en24:zl prog 24:=ze func24 rfl rfl
theorem en25:zl prog 25:=ze func25 rfl rfl
theorem en26:zl prog 26:=ze func26 rfl rfl
theorem en27:zl prog 27:=ze func27 rfl rfl
theorem en28:zl prog 28:=ze func28 rfl rfl
theorem en29:zl prog 29:=ze func29 rfl rfl
theorem en30:zl prog 30:=ze func30 rfl rfl
theorem en31:zl prog 31:=ze func31 rfl rfl
theorem en32:zl prog 32:=ze func32 rfl rfl
theorem en33:zl prog 33:=ze func33 rfl rfl
theorem en34:zl prog 34:=ze func34 rfl rfl
theorem en35:zl prog 35:=ze func35 rfl rfl
theorem en36:zl prog 36:=ze func36 rfl rfl
theorem en37:zl prog 37:=ze func37 rfl rfl
theorem en38:zl prog 38:=ze func38 rfl rfl
theorem en39:zl prog 39:=ze func39 rfl rfl
theorem en40:zl prog 40:=ze func40 rfl rfl
theorem en41:zl prog 41:=ze func41 rfl rfl
theorem en42:zl prog 42:=ze func42 rfl rfl
theorem en43:zl prog 43:=ze func43 rfl rfl
theorem en44:zl prog 44:=ze func44 rfl rfl
theorem en46:zl prog 46:=ze func46 rfl rfl
theorem en47:zl prog 47:=ze func47 rfl rfl
theorem en48:zl prog 48:=ze func48 rfl rfl
theorem en49:zl prog 49:=ze func49 rfl rfl
theorem en50:zl prog 50:=ze func50 rfl rfl
theorem en51:zl prog 51:=ze func51 rfl rfl
theorem en52:zl prog 52:=ze func52 rfl rfl
theorem en53:zl prog 53:=ze func53 rfl rfl
theorem en54:zl prog 54:=ze func54 rfl rfl
theorem en55:zl prog 55:=ze func55 rfl rfl
theorem en56:zl prog 56:=ze func56 rfl rfl
theorem en60:zl prog 60:=ze func60 rfl rfl
theorem en61:zl prog 61:=ze func61 rfl rfl
theorem en62:zl prog 62:=ze func62 rfl rfl
theorem en69:zl prog 69:=ze func69 rfl rfl
theorem en71:zl prog 71:=ze func71 rfl rfl
theorem en73:zl prog 73:=ze func73 rfl rfl
theorem en76:zl prog 76:=ze func76 rfl rfl
theorem en77:zl prog 77:=ze func77 rfl rfl
theorem en78:zl prog 78:=ze func78 rfl rfl
theorem en79:zl prog 79:=ze func79 rfl rfl
theorem en80:zl prog 80:=ze func80 rfl rfl
theorem en81:zl prog 81:=ze func81 rfl rfl
theorem en82:zl prog 82:=ze func82 rfl rfl
theorem en83:zl prog 83:=ze func83 rfl rfl
theorem en84:zl prog 84:=ze func84 rfl rfl
theorem en85:zl prog 85:=ze func85 rfl rfl
theorem en86:zl prog 86:=ze func86 rfl rfl
theorem en87:zl prog 87:=ze func87 rfl rfl
theorem en88:zl prog 88:=ze func88 rfl rfl
theorem en89:zl prog 89:=ze func89 rfl rfl
theorem en90:zl prog 90:=ze func90 rfl rfl
theorem en91:zl prog 91:=ze func91 rfl rfl
theorem en92:zl prog 92:=ze func92 rfl rfl
theorem en93:zl prog 93:=ze func93 rfl rfl
theorem en94:zl prog 94:=ze func94 rfl rfl
theorem en95:zl prog 95:=ze func95 rfl rfl
theorem en96:zl prog 96:=ze func96 rfl rfl
theorem en98:zl prog 98:=ze func98 rfl rfl
theorem en99:zl prog 99:=ze func99 rfl rfl
theorem en100:zl prog 100:=ze func100 rfl rfl
theorem en101:zl prog 101:=ze func101 rfl rfl
theorem en102:zl prog 102:=ze func102 rfl rfl
theorem en103:zl prog 103:=ze func103 rfl rfl
theorem en104:zl prog 104:=ze func104 rfl rfl
theorem en105:zl prog 105:=ze func105 rfl rfl
theorem en106:zl prog 106:=ze func106 rfl rfl
theorem en107:zl prog 107:=ze func107 rfl rfl
theorem en108:zl prog 108:=ze func108 rfl rfl
theorem en109:zl prog 109:=ze func109 rfl rfl
theorem en110:zl prog 110:=ze func110 rfl rfl
theorem en111:zl prog 111:=ze func111 rfl rfl
theorem en112:zl prog 112:=ze func112 rfl rfl
theorem en113:zl prog 113:=ze func113 rfl rfl
theorem en114:zl prog 114:=ze func114 rfl rfl
theorem en115:zl prog 115:=ze func115 rfl rfl
theorem en116:zl prog 116:=ze func116 rfl rfl
theorem en117:zl prog 117:=ze func117 rfl rfl
theorem en118:zl prog 118:=ze func118 rfl rfl
theorem en119:zl prog 119:=ze func119 rfl rfl
theorem en120:zl prog 120:=ze func120 rfl rfl
theorem en124:zl prog 124:=ze func124 rfl rfl
theorem en127:zl prog 127:=ze func127 rfl rfl
theorem en128:zl prog 128:=ze func128 rfl rfl
theorem en129:zl prog 129:=ze func129 rfl rfl
theorem en130:zl prog 130:=ze func130 rfl rfl
theorem en131:zl prog 131:=ze func131 rfl rfl
theorem en135:zl prog 135:=ze func135 rfl rfl
theorem en136:zl prog 136:=ze func136 rfl rfl
theorem en138:zl prog 138:=ze func138 rfl rfl
theorem en139:zl prog 139:=ze func139 rfl rfl
theorem en140:zl prog 140:=ze func140 rfl rfl
theorem en142:zl prog 142:=ze func142 rfl rfl
theorem en143:zl prog 143:=ze func143 rfl rfl
theorem en144:zl prog 144:=ze func144 rfl rfl
theorem en145:zl prog 145:=ze func145 rfl rfl
theorem en146:zl prog 146:=ze func146 rfl rfl
theorem en147:zl prog 147:=ze func147 rfl rfl
theorem en148:zl prog 148:=ze func148 rfl rfl
theorem en149:zl prog 149:=ze func149 rfl rfl
theorem en150:zl prog 150:=ze func150 rfl rfl
theorem en151:zl prog 151:=ze func151 rfl rfl
theorem en152:zl prog 152:=ze func152 rfl rfl
theorem en153:zl prog 153:=ze func153 rfl rfl
theorem en154:zl prog 154:=ze func154 rfl rfl
theorem en155:zl prog 155:=ze func155 rfl rfl
theorem en156:zl prog 156:=ze func156 rfl rfl
theorem en157:zl prog 157:=ze func157 rfl rfl
theorem en158:zl prog 158:=ze func158 rfl rfl
theorem en159:zl prog 159:=ze func159 rfl rfl
theorem en160:zl prog 160:=ze func160 rfl rfl
theorem en161:zl prog 161:=ze func161 rfl rfl
theorem en162:zl prog 162:=ze func162 rfl rfl
theorem en163:zl prog 163:=ze func163 rfl rfl
theorem en164:zl prog 164:=ze func164 rfl rfl
theorem en165:zl prog 165:=ze func165 rfl rfl
theorem en166:zl prog 166:=ze func166 rfl rfl
theorem en167:zl prog 167:=ze func167 rfl rfl
theorem en168:zl prog 168:=ze func168 rfl rfl
theorem en169:zl prog 169:=ze func169 rfl rfl
theorem en170:zl prog 170:=ze func170 rfl rfl
theorem en171:zl prog 171:=ze func171 rfl rfl
theorem en172:zl prog 172:=ze func172 rfl rfl
theorem en173:zl prog 173:=ze func173 rfl rfl
theorem en174:zl prog 174:=ze func174 rfl rfl
theorem en175:zl prog 175:=ze func175 rfl rfl
theorem en176:zl prog 176:=ze func176 rfl rfl
theorem en177:zl prog 177:=ze func177 rfl rfl
theorem en178:zl prog 178:=ze func178 rfl rfl
theorem en181:zl prog 181:=ze func181 rfl rfl
theorem en182:zl prog 182:=ze func182 rfl rfl
theorem en183:zl prog 183:=ze func183 rfl rfl
theorem en184:zl prog 184:=ze func184 rfl rfl
theorem en185:zl prog 185:=ze func185 rfl rfl
theorem en186:zl prog 186:=ze func186 rfl rfl
theorem en187:zl prog 187:=ze func187 rfl rfl
theorem en188:zl prog 188:=ze func188 rfl rfl
theorem en189:zl prog 189:=ze func189 rfl rfl
theorem en190:zl prog 190:=ze func190 rfl rfl
theorem en191:zl prog 191:=ze func191 rfl rfl
theorem en192:zl prog 192:=ze func192 rfl rfl
theorem en193:zl prog 193:=ze func193 rfl rfl
theorem en194:zl prog 194:=ze func194 rfl rfl
theorem en195:zl prog 195:=ze func195 rfl rfl
theorem en196:zl prog 196:=ze func196 rfl rfl
theorem en197:zl prog 197:=ze func197 rfl rfl
theorem en198:zl prog 198:=ze func198 rfl rfl
theorem en199:zl prog 199:=ze func199 rfl rfl
theorem en200:zl prog 200:=ze func200 rfl rfl
theorem en201:zl prog 201:=ze func201 rfl rfl
theorem en202:zl prog 202:=ze func202 rfl rfl
theorem en206:zl prog 206:=ze func206 rfl rfl
theorem en208:zl prog 208:=ze func208 rfl rfl
theorem en209:zl prog 209:=ze func209 rfl rfl
theorem en214:zl prog 214:=ze func214 rfl rfl
theorem en218:zl prog 218:=ze func218 rfl rfl
theorem en219:zl prog 219:=ze func219 rfl rfl
theorem en222:zl prog 222:=ze func222 rfl rfl
theorem en223:zl prog 223:=ze func223 rfl rfl
theorem en224:zl prog 224:=ze func224 rfl rfl
theorem en225:zl prog 225:=ze func225 rfl rfl
theorem en226:zl prog 226:=ze func226 rfl rfl
theorem en227:zl prog 227:=ze func227 rfl rfl
theorem en228:zl prog 228:=ze func228 rfl rfl
theorem en229:zl prog 229:=ze func229 rfl rfl
theorem en230:zl prog 230:=ze func230 rfl rfl
theorem en231:zl prog 231:=ze func231 rfl rfl
theorem en232:zl prog 232:=ze func232 rfl rfl
theorem en233:zl prog 233:=ze func233 rfl rfl
theorem en234:zl prog 234:=ze func234 rfl rfl
theorem en235:zl prog 235:=ze func235 rfl rfl
theorem en236:zl prog 236:=ze func236 rfl rfl
theorem en237:zl prog 237:=ze func237 rfl rfl
theorem en238:zl prog 238:=ze func238 rfl rfl
theorem en239:zl prog 239:=ze func239 rfl rfl
theorem en240:zl prog 240:=ze func240 rfl rfl
theorem en241:zl prog 241:=ze func241 rfl rfl
theorem en242:zl prog 242:=ze func242 rfl rfl
theorem en243:zl prog 243:=ze func243 rfl rfl
theorem en244:zl prog 244:=ze func244 rfl rfl
theorem en245:zl prog 245:=ze func245 rfl rfl
theorem en246:zl prog 246:=ze func246 rfl rfl
theorem en247:zl prog 247:=ze func247 rfl rfl
theorem en248:zl prog 248:=ze func248 rfl rfl
theorem en251:zl prog 251:=ze func251 rfl rfl
theorem en252:zl prog 252:=ze func252 rfl rfl
theorem en253:zl prog 253:=ze func253 rfl rfl
theorem en254:zl prog 254:=ze func254 rfl rfl
theorem en255:zl prog 255:=ze func255 rfl rfl
theorem en256:zl prog 256:=ze func256 rfl rfl
theorem en257:zl prog 257:=ze func257 rfl rfl
theorem en258:zl prog 258:=ze func258 rfl rfl
theorem en259:zl prog 259:=ze func259 rfl rfl
theorem en260:zl prog 260:=ze func260 rfl rfl
theorem en261:zl prog 261:=ze func261 rfl rfl
theorem en262:zl prog 262:=ze func262 rfl rfl
theorem en264:zl prog 264:=ze func264 rfl rfl
theorem en265:zl prog 265:=ze func265 rfl rfl
theorem en267:zl prog 267:=ze func267 rfl rfl
theorem en272:zl prog 272:=ze func272 rfl rfl
theorem en273:zl prog 273:=ze func273 rfl rfl
theorem en274:zl prog 274:=ze func274 rfl rfl
theorem en275:zl prog 275:=ze func275 rfl rfl
theorem en276:zl prog 276:=ze func276 rfl rfl
theorem en277:zl prog 277:=ze func277 rfl rfl
theorem en279:zl prog 279:=ze func279 rfl rfl
theorem en281:zl prog 281:=ze func281 rfl rfl
theorem en282:zl prog 282:=ze func282 rfl rfl
attribute [go_sem] en4 en5 en7 en15 en16 en17 en18 en19 en20 en21 en22 en24 en25 en26 en27 en28 en29 en30 en31 en32 en33 en34 en35 en36 en37 en38 en39 en40 en41 en42 en43 en44 en46 en47 en48 en49 en50 en51 en52 en53 en54 en55 en56 en60 en61 en62 en69 en71 en73 en76 en77 en78 en79 en80 en81 en82 en83 en84 en85 en86 en87 en88 en89 en90 en91 en92 en93 en94 en95 en96 en98 en99 en100 en101 en102 en103 en104 en105 en106 en107 en108 en109 en110 en111 en112 en113 en114 en115 en116 en117 en118 en119 en120 en124 en127 en128 en129 en130 en131 en135 en136 en138 en139 en140 en142 en143 en144 en145 en146 en147 en148 en149 en150 en151 en152 en153 en154 en155 en156 en157 en158 en159 en160 en161 en162 en163 en164 en165 en166 en167 en168 en169 en170 en171 en172 en173 en174 en175 en176 en177 en178 en181 en182 en183 en184 en185 en186 en187 en188 en189 en190 en191 en192 en193 en194 en195 en196 en197 en198 en199 en200 en201 en202 en206 en208 en209 en214 en218 en219 en222 en223 en224 en225 en226 en227 en228 en229 en230 en231 en232 en233 en234 en235 en236 en237 en238 en239 en240 en241 en242 en243 en244 en245 en246 en247 en248 en251 en252 en253 en254 en255 en256 en257 en258 en259 en260 en261 en262 en264 en265 en267 en272 en273 en274 en275 en276 en277 en279 en281 en282
theorem zK:prog.follows .mixedOrders=true:=by kernel_rfl
@[go_sem] theorem eqg66:prog.eqGuardType prog.depth 66=false:=by kernel_rfl
@[go_sem] theorem sih66:prog.stoodInHeld 66=false:=by kernel_rfl
@[go_sem] theorem eqg74:prog.eqGuardType prog.depth 74=false:=by kernel_rfl
@[go_sem] theorem eqg124:prog.eqGuardType prog.depth 124=false:=by kernel_rfl
@[go_sem] theorem sih124:prog.stoodInHeld 124=false:=by kernel_rfl
attribute [go_sem] eqT eqF eqA String.reduceEq
def G0:Nat→V:=fun g=>if g=0 then .cptr [.str [112,117,98,108,105,115,104],.str [112,97,121]] else if g=2 then .cptr [.int .i64 10,.int .i64 13,.int .i64 16,.int .i64 20,.int .i64 25,.int .i64 32,.int .i64 40,.int .i64 50,.int .i64 63,.int .i64 79] else if g=3 then .tabp [.int .u64 1,.int .u64 10,.int .u64 100,.int .u64 1000,.int .u64 10000,.int .u64 100000,.int .u64 1000000,.int .u64 10000000,.int .u64 100000000,.int .u64 1000000000,.int .u64 10000000000,.int .u64 100000000000,.int .u64 1000000000000,.int .u64 10000000000000,.int .u64 100000000000000,.int .u64 1000000000000000,.int .u64 10000000000000000,.int .u64 100000000000000000,.int .u64 1000000000000000000,.int .u64 10000000000000000000] else .top
@[go_sem] theorem G0_0:G0 0=.cptr [.str [112,117,98,108,105,115,104],.str [112,97,121]]:=rfl
@[go_sem] theorem G0_2:G0 2=.cptr [.int .i64 10,.int .i64 13,.int .i64 16,.int .i64 20,.int .i64 25,.int .i64 32,.int .i64 40,.int .i64 50,.int .i64 63,.int .i64 79]:=rfl
@[go_sem] theorem G0_3:G0 3=.tabp [.int .u64 1,.int .u64 10,.int .u64 100,.int .u64 1000,.int .u64 10000,.int .u64 100000,.int .u64 1000000,.int .u64 10000000,.int .u64 100000000,.int .u64 1000000000,.int .u64 10000000000,.int .u64 100000000000,.int .u64 1000000000000,.int .u64 10000000000000,.int .u64 100000000000000,.int .u64 1000000000000000,.int .u64 10000000000000000,.int .u64 100000000000000000,.int .u64 1000000000000000000,.int .u64 10000000000000000000]:=rfl
theorem zw:∀ g,Pu (G0 g)∨G0 g=.top:=fun g=>by
 unfold G0
 split
 ·left;first | exact .tabp _ | simp only[go_sem,↓wy]
 split
 ·left;first | exact .tabp _ | simp only[go_sem,↓wy]
 split
 ·left;first | exact .tabp _ | simp only[go_sem,↓wy]
 exact .inr rfl
theorem zk {l:List (FuncId×Contract)}(h:TabOk prog G0 l):∀ g C,tab l g=some C→Holds prog G0 g C:=tab_okG h
end Go.Fly.Tryz
end
